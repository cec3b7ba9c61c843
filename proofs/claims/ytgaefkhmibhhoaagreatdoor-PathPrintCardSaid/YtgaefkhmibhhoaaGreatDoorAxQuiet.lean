/- A part of the proof that rubriclaw22.PathPrint returns true for every path. -/
import Derived.Test.YtgaefkhmibhhoaaGreatDoorAxHeap
import Derived.Laws.Strings
import Derived.Laws.Strings2
import Derived.Laws.StructEq
import Derived.Laws.Slices
import Derived.Laws.Tables
import Derived.Laws.Pointers
import Derived.Laws.BytesString
import Derived.Laws.BytesArg
set_option linter.unusedSimpArgs false
set_option linter.unusedVariables false
namespace Go.AX
open Go

section
variable {P : Program} {w : World}

theorem run_und {t : TypeId} {d : TypeDesc} (h : P.underlying t = some d) : (underlying t).run P w = .ok d w := by
  simp [underlying, h]
theorem run_info {t : TypeId} {i : TypeInfo} (h : P.info? t = some i) : (typeInfo t).run P w = .ok i w := by
  simp [typeInfo, h]
theorem run_size {t : TypeId} {n : Nat} (h : AX.sizeOf P t = some n) : (Go.sizeOf t).run P w = .ok n w := by
  simp only [AX.sizeOf, Option.map_eq_some_iff] at h
  obtain ⟨i, h1, rfl⟩ := h
  simp [Go.sizeOf, run_info h1]
theorem zeroOf_eq {t : TypeId} {z : Value} (h : zeroOf P t = some z) : (∃ i, P.info? t = some i ∧ i.zero = some z) ∧ closed z = true := by
  unfold zeroOf at h
  split at h
  · rename_i z' hz
    split at h
    · rename_i hc
      cases h
      simp only [Option.bind_eq_some_iff] at hz
      exact ⟨hz, hc⟩
    · cases h
  · cases h
theorem run_zero {t : TypeId} {z : Value} (h : zeroOf P t = some z) : (zeroValue t).run P w = .ok z w := by
  obtain ⟨⟨i, h1, h2⟩, _⟩ := zeroOf_eq h
  simp [zeroValue, run_info h1, h2]
theorem run_isAgg {t : TypeId} {b : Bool} (h : AX.isAgg P t = some b) : (Go.isAgg t).run P w = .ok b w := by
  unfold AX.isAgg at h
  split at h
  · rename_i fs hu; cases h; simp [Go.isAgg, run_und hu]
  · rename_i n e hu; cases h; simp [Go.isAgg, run_und hu]
  · rename_i d h1 h2 hu
    cases h
    simp only [Go.isAgg, Sem.run_bind, run_und hu, Result.andThen_ok]
    cases d <;> first | rfl | exact absurd rfl (h1 _) | exact absurd rfl (h2 _ _)
  · cases h

variable {NG B : Nat} {ρ : Map} {h : Heap}

theorem add_eq (b o i : Nat) : (⟨b, o, none⟩ : Addr).add i = ⟨b, o + i, none⟩ := by
  unfold Addr.add
  split
  · rename_i e; subst e; rfl
  · rfl

theorem blk_some {x : Nat} {b : Blk} (hb : h.blk x = some b) : h.get x = some (.cells b) := by
  unfold Heap.blk at hb
  split at hb
  · rename_i e; cases hb; exact e
  · cases hb

theorem cell_of {g i : Nat} {c : Array Value} {e : TypeId} {fr : Nat × Nat} {v : Value} (hg : w.heap[g]? = some (.cells c e fr)) (hi : c[i]? = some v) : w.cell? ⟨g, i, none⟩ = some v := by
  simp [World.cell?, hg, hi]
theorem frozen_of {g i : Nat} {c : Array Value} {e : TypeId} {fr : Nat × Nat} (hg : w.heap[g]? = some (.cells c e fr)) (hi : ¬ (fr.1 ≤ i ∧ i < fr.2)) : w.frozen? ⟨g, i, none⟩ = false := by
  obtain ⟨lo, hi'⟩ := fr
  simp only [World.frozen?, hg]
  simp only at hi
  by_cases h1 : lo ≤ i <;> by_cases h2 : i < hi' <;> simp [h1, h2] <;> first | exact absurd ⟨h1, h2⟩ hi | omega

theorem read_sound (hh : HR NG B ρ h w) {x o n : Nat} {r : List Value} (hr : h.read x o n = some r) {l : Loc} (hl : ρ x = some l) :
    ∃ r', LR ρ r r' ∧ r.length = n ∧ (∀ (i : Nat) (v : Value), r'[i]? = some v → w.cell? ⟨l.b, l.base + o + i, none⟩ = some v) := by
  unfold Heap.read at hr
  split at hr
  · rename_i b hb
    have hb := blk_some hb
    obtain ⟨l', hl', hbr, _⟩ := hh.cells x b hb
    rw [hl] at hl'; cases hl'
    obtain ⟨⟨c, fr, h1, h2, _, h4⟩, _, _, h7, _⟩ := hbr
    obtain ⟨hlen, hmax, hget, _⟩ := take_drop_get hr
    refine ⟨(c.toList.drop (l.base + o)).take n, ⟨?_, fun i u v hu hv => ?_⟩, hlen, fun i v hv => ?_⟩
    · simp only [List.length_take, List.length_drop, Array.length_toList]
      by_cases h0 : n = 0
      · omega
      · have : o + n ≤ b.cells.length := by
          rcases Nat.lt_or_ge b.cells.length o with h8 | h8
          · have := (takeN_eq _ _ _ hr).2; rw [dropN_eq] at this; simp at this; omega
          · omega
        omega
    · have hi : i < n := by rw [← hlen]; exact (List.getElem?_eq_some_iff.1 hu).1
      rw [hget i hi] at hu
      rw [List.getElem?_take, if_pos hi, List.getElem?_drop] at hv
      obtain ⟨v', h8, h9⟩ := h4 _ _ hu
      have : c.toList[l.base + o + i]? = c[l.base + (o + i)]? := by rw [Nat.add_assoc]; simp
      rw [this, h8] at hv; cases hv
      exact h9
    · rw [List.getElem?_take] at hv
      split at hv
      · rw [List.getElem?_drop] at hv
        exact cell_of h1 (by simpa using hv)
      · cases hv
  · cases hr

theorem run_loadCells_of {b o n : Nat} {r' : List Value} (hlen : r'.length = n) (hc : ∀ (i : Nat) (v : Value), r'[i]? = some v → w.cell? ⟨b, o + i, none⟩ = some v) :
    (loadCells ⟨b, o, none⟩ n).run P w = .ok r'.toArray w := by
  subst hlen
  exact run_loadCells_list w ⟨b, o, none⟩ r' fun j v hv => by rw [add_eq]; exact hc j v hv

theorem loadVar_sound (hh : HR NG B ρ h w) {t : TypeId} {x o : Nat} {v : Value} {l : Loc} (hl : ρ x = some l) (hv : AX.loadVar P h t ⟨x, o, none⟩ = some v) :
    ∃ v', (Go.loadVar t ⟨l.b, l.base + o, none⟩).run P w = .ok v' w ∧ VR ρ v v' := by
  unfold AX.loadVar at hv
  split at hv
  · rename_i ha _
    simp only [Option.bind_eq_bind, Option.bind_eq_some_iff] at hv
    obtain ⟨n, hn, r, hr, hv⟩ := hv
    cases hv
    obtain ⟨r', h1, h2, h3⟩ := read_sound hh hr hl
    refine ⟨.agg r'.toArray, ?_, h1.agg⟩
    simp [Go.loadVar, run_isAgg ha, run_size hn, run_loadCells_of (P := P) (h1.1.symm.trans h2) h3]
  · rename_i ha _
    simp only [Option.bind_eq_bind, Option.bind_eq_some_iff] at hv
    obtain ⟨r, hr, hv⟩ := hv
    split at hv
    · cases hv
      obtain ⟨r', h1, h2, h3⟩ := read_sound hh hr hl
      obtain ⟨v', r2, rfl, h4, h5⟩ := h1.cons_inv
      have := h3 0 v' (by simp)
      refine ⟨v', ?_, h4⟩
      simp only [Nat.add_zero] at this
      simp [Go.loadVar, run_isAgg ha, this]
    · cases hv
  · cases hv

theorem part_sound {t : TypeId} {cs cs' : List Value} (hc : LR ρ cs cs') {off : Nat} {v : Value} (hv : AX.part P t cs off = some v) :
    ∃ v', (Go.part t cs'.toArray off).run P w = .ok v' w ∧ VR ρ v v' := by
  unfold AX.part at hv
  split at hv
  · rename_i ha
    simp only [Option.bind_eq_bind, Option.bind_eq_some_iff] at hv
    obtain ⟨n, hn, r, hr, hv⟩ := hv
    cases hv
    obtain ⟨_, _, _, rfl⟩ := take_drop_get hr
    refine ⟨.agg ((cs'.drop off).take n).toArray, ?_, ((hc.drop off).take n).agg⟩
    simp [Go.part, run_isAgg ha, run_size hn]
  · rename_i ha
    obtain ⟨v', h1, h2⟩ := hc.get hv
    refine ⟨v', ?_, h2⟩
    simp [Go.part, run_isAgg ha, h1]
  · cases hv

/-! ### binary operations -/
theorem bl_eq (s : ByteArray) : s.toList = bl s := ByteArray.toList_eq s
theorem bl_length (s : ByteArray) : (bl s).length = s.size := by unfold bl ByteArray.size; exact Array.length_toList
theorem mk_bl (s : ByteArray) : (⟨(bl s).toArray⟩ : ByteArray) = s := by cases s; unfold bl; simp only [Array.toArray_toList]

theorem eqFlat_sound (d : Nat) : ∀ (fs : List Field) {xs ys xs' ys' : List Value} (_ : LR ρ xs xs') (_ : LR ρ ys ys') {b : Bool} (_ : eqFlat P fs xs ys = some b),
    (Op.eqFields (d + 1) xs'.toArray ys'.toArray fs).run P w = .ok b w := by
  intro fs
  induction fs with
  | nil => intro xs ys xs' ys' _ _ b hb; simp only [eqFlat, Option.some.injEq] at hb; subst hb; simp [Op.eqFields]
  | cons f fs ih =>
    intro xs ys xs' ys' hx hy b hb
    unfold eqFlat at hb
    split at hb
    · cases hb
    · rename_i hne
      have hpart : ∀ {D : TypeDesc} {v v' : Value} {zs zs' : List Value}, P.underlying f.type = some D → (match D with | .struct _ | .array _ _ => true | _ => false) = false → LR ρ zs zs' → zs[f.offset]? = some v → ∃ v', zs'[f.offset]? = some v' ∧ VR ρ v v' ∧ (Go.part f.type zs'.toArray f.offset).run P w = .ok v' w := by
        intro D v v' zs zs' hD hd hz hv
        obtain ⟨v', h1, h2⟩ := hz.get hv
        refine ⟨v', h1, h2, ?_⟩
        have ha : (Go.isAgg f.type).run P w = .ok false w := by
          simp only [Go.isAgg, Sem.run_bind, run_und hD, Result.andThen_ok]
          cases D <;> first | rfl | cases hd
        simp [Go.part, ha, h1]
      split at hb
      · rename_i k0 k a k' c hu ha hc
        obtain ⟨a', _, h3, h4⟩ := hpart (v' := undef) hu rfl hx ha
        obtain ⟨c', _, h5, h6⟩ := hpart (v' := undef) hu rfl hy hc
        cases h3; cases h5
        split at hb
        · rename_i hk; subst hk
          simp only [Op.eqFields, Sem.run_bind, Sem.run_ite, h4, h6, Result.andThen_ok, run_equalIn_int w d f.type k k0 a c hu, if_pos hne]
          split at hb
          · rename_i e
            simp only [e, Bool.not_true, Bool.false_eq_true, if_false]
            exact ih hx hy hb
          · rename_i e
            cases hb
            simp [e]
        · cases hb
      · rename_i a c hu ha hc
        obtain ⟨a', _, h3, h4⟩ := hpart (v' := undef) hu rfl hx ha
        obtain ⟨c', _, h5, h6⟩ := hpart (v' := undef) hu rfl hy hc
        cases h3; cases h5
        simp only [Op.eqFields, Sem.run_bind, Sem.run_ite, h4, h6, Result.andThen_ok, run_equalIn_string w d f.type a c hu, if_pos hne, bl_eq]
        split at hb
        · rename_i e
          simp only [e, Bool.not_true, Bool.false_eq_true, if_false]
          exact ih hx hy hb
        · rename_i e
          cases hb
          simp [e]
      · rename_i a c hu ha hc
        obtain ⟨a', _, h3, h4⟩ := hpart (v' := undef) hu rfl hx ha
        obtain ⟨c', _, h5, h6⟩ := hpart (v' := undef) hu rfl hy hc
        cases h3; cases h5
        simp only [Op.eqFields, Sem.run_bind, Sem.run_ite, h4, h6, Result.andThen_ok, run_equalIn_bool' w d f.type a c hu, if_pos hne]
        split at hb
        · rename_i e
          simp only [e, Bool.not_true, Bool.false_eq_true, if_false]
          exact ih hx hy hb
        · rename_i e
          cases hb
          simp [e]
      · cases hb
end
end Go.AX

namespace Go.AX
open Go
section
variable {P : Program} {w : World} {NG B : Nat} {ρ : Map} {h : Heap}

theorem eqIn_sound {c : Bool} {t : TypeId} {x y x' y' : Value} {b : Bool} (hb : eqVals P c t x y = some b) (hx : VR ρ x x') (hy : VR ρ y y') (d d' : Nat) (hd : d = d' + 1) :
    (Op.equalIn (d + 1) t x' y').run P w = .ok b w := by
  unfold eqVals at hb
  split at hb
  · rename_i a c hu; cases hx; cases hy; cases hb; simp [Op.equalIn, run_und hu]
  · rename_i e a hu
    cases hx
    cases hb
    cases hy <;> simp [Op.equalIn, run_und hu]
  · rename_i e a hu
    cases hx; cases hy; cases hb; simp [Op.equalIn, run_und hu]
  · rename_i e a c hu
    split at hb
    · rename_i n hn
      split at hb
      · rename_i h0
        split at hb
        · rename_i hc
          obtain ⟨h1, h2, h3⟩ := hc
          cases hx with
          | ptr x o l hl =>
            cases hy with
            | ptr y o' l' hl' =>
              simp only at h1; subst h1
              rw [hl] at hl'; cases hl'
              cases hb
              have e1 : (Op.equalIn (d + 1) t (.pointer (some ⟨l.b, l.base + o, none⟩)) (.pointer (some ⟨l.b, l.base + o', none⟩))).run P w = (if n ≠ 0 then sameAddr ⟨l.b, l.base + o, none⟩ ⟨l.b, l.base + o', none⟩ else if (⟨l.b, l.base + o, none⟩ : Addr) == ⟨l.b, l.base + o', none⟩ then pure true else (do pure (decide ((← choose .zeroSizeEq) = 1)))).run P w := by
                simp only [Op.equalIn, Sem.run_bind, run_und hu, run_size hn, Result.andThen_ok]
              rw [e1, if_pos h0]
              have e2 : ((⟨l.b, l.base + o, none⟩ : Addr) == ⟨l.b, l.base + o', none⟩) = (o == o') := by
                by_cases e : o = o'
                · subst e; simp
                · rw [beq_eq_false_iff_ne.2 e]
                  refine beq_eq_false_iff_ne.2 fun h => ?_
                  injection h with _ h2
                  omega
              simp only [sameAddr, beq_self_eq_true, if_true, e2]
              rfl
        · cases hb
      · cases hb
    · cases hb
  · rename_i e a l c hu; cases hx; cases hb; cases hy <;> simp [Op.equalIn, run_und hu]
  · rename_i e a l c l' c' hu; cases hx; cases hy; cases hb; simp [Op.equalIn, run_und hu]
  · rename_i hu; cases hx; cases hy; cases hb; simp [Op.equalIn, run_und hu]
  · rename_i hu; cases hx; cases hy; cases hb; simp [Op.equalIn, run_und hu]
  · rename_i hu; cases hx; cases hy; cases hb; simp [Op.equalIn, run_und hu]
  · rename_i hu; cases hx; cases hy; cases hb; simp [Op.equalIn, run_und hu]
  · rename_i hu; cases hx; cases hy; cases hb; simp [Op.equalIn, run_und hu]
  · rename_i hu
    cases hx; cases hy
    split at hb
    · cases hb; simp [Op.equalIn, run_und hu]
    · cases hb
  · rename_i fs xs ys hu
    split at hb
    · cases hb
    · rename_i hc
      simp only [Bool.or_eq_true, not_or, Bool.not_eq_true] at hc
      obtain ⟨xs', rfl, hxs⟩ := hx.agg_inv
      obtain ⟨ys', rfl, hys⟩ := hy.agg_inv
      have hf : P.fieldsOf t = fs := by simp [Program.fieldsOf, hu]
      have := eqFlat_sound (P := P) (w := w) d' fs.toList hxs hys hb
      rw [run_equalIn_struct w d t xs' ys' (by rw [hf]; exact hu) hc.1, hf, hd]
      exact this
  · cases hb

theorem eqVals_sound {c : Bool} {t : TypeId} {x y x' y' : Value} {b : Bool} (hb : eqVals P c t x y = some b) (hx : VR ρ x x') (hy : VR ρ y y') :
    (Op.equal t x' y').run P w = .ok b w := eqIn_sound hb hx hy 9999 9998 rfl

/-- The guard of a comparison lets what is told here pass. -/
theorem eqGuard_pass {op : BinOp} {t : TypeId} {x y : Value} {X Y : Operand} (h1 : x = .nilIface → y = .nilIface → (Region.isConst X || Region.isConst Y) = true)
    (h2 : ∀ a b, x = .agg a → y = .agg b → P.eqGuardType P.depth t = false) : (eqGuard op t X Y x y).run P w = .ok () w := by
  unfold eqGuard
  generalize Op.maxDepth = D
  cases op <;> first | rfl | skip
  all_goals
    rw [if_neg (by decide)]
    cases x with
    | nilIface =>
      cases y with
      | nilIface =>
        have := h1 rfl rfl
        cases X <;> cases Y <;> first | rfl | cases this
      | _ => rfl
    | agg a =>
      cases y with
      | agg b =>
        have := h2 _ _ rfl rfl
        simp [this]
      | _ => rfl
    | _ => rfl

theorem eqVals_guard {c : Bool} {t : TypeId} {x y x' y' : Value} {b : Bool} (hb : eqVals P c t x y = some b) (hx : VR ρ x x') (hy : VR ρ y y') :
    (x' = .nilIface → y' = .nilIface → c = true) ∧ (∀ a b, x' = .agg a → y' = .agg b → P.eqGuardType P.depth t = false) := by
  constructor
  · rintro rfl rfl
    cases hx; cases hy
    cases hu : P.underlying t with
    | none => simp [eqVals, hu] at hb
    | some d =>
      cases d <;> simp [eqVals, hu] at hb
      exact hb.1
  · rintro a b' rfl rfl
    cases hx; cases hy
    cases hu : P.underlying t with
    | none => simp [eqVals, hu] at hb
    | some d =>
      cases d <;> simp only [eqVals, hu, reduceCtorEq] at hb
      split at hb
      · cases hb
      · rename_i hc; simp only [Bool.or_eq_true, not_or, Bool.not_eq_true] at hc; exact hc.2

theorem eq_sound {op : BinOp} {t : TypeId} {x y x' y' : Value} {X Y : Operand} {b : Bool} (hb : eqVals P (Region.isConst X || Region.isConst Y) t x y = some b) (hx : VR ρ x x') (hy : VR ρ y y') :
    (eqGuard op t X Y x' y').run P w = .ok () w :=
  eqGuard_pass (eqVals_guard hb hx hy).1 (eqVals_guard hb hx hy).2

def eqKind : Value → Bool
  | .bool _ | .pointer _ | .slice .. | .func .. | .nilFunc | .nilIface | .iface .. | .agg _ => true
  | _ => false
theorem eqKind_of {c : Bool} {t : TypeId} {x y : Value} {b : Bool} (hb : eqVals P c t x y = some b) : eqKind x = true := by
  cases hu : P.underlying t with
  | none => simp [eqVals, hu] at hb
  | some d => cases x <;> first | rfl | (cases d <;> simp [eqVals, hu] at hb)
theorem VR.eqKind {v v' : Value} (h : VR ρ v v') : AX.eqKind v' = AX.eqKind v := by cases h <;> rfl
theorem binOp_eql {t : TypeId} {x : Value} (h : eqKind x = true) (y : Value) : binOp .eql t x y = (do pure (.bool (← Op.equal t x y))) := by
  cases x <;> first | (cases h; done) | (cases y <;> rfl)
theorem binOp_neq {t : TypeId} {x : Value} (h : eqKind x = true) (y : Value) : binOp .neq t x y = (do pure (.bool (!(← Op.equal t x y)))) := by
  cases x <;> first | (cases h; done) | (cases y <;> rfl)

theorem binV_sound {op : BinOp} {t : TypeId} {x y x' y' v : Value} {X Y : Operand} (hv : binV P (Region.isConst X || Region.isConst Y) op t x y = some v) (hx : VR ρ x x') (hy : VR ρ y y') :
    ∃ v', ((do eqGuard op t X Y x' y'; binOp op t x' y' : Sem Value)).run P w = .ok v' w ∧ VR ρ v v' := by
  have noguard : ∀ {x' y' : Value}, (x' ≠ .nilIface) → (∀ a, x' ≠ .agg a) → (eqGuard op t X Y x' y').run P w = .ok () w := fun h1 h2 => eqGuard_pass (fun h _ => absurd h h1) (fun a _ h _ => absurd h (h2 a))
  unfold binV at hv
  split at hv
  · -- shl
    rename_i k a k' b
    cases hx; cases hy
    split at hv
    · cases hv
    · rename_i hb
      cases hv
      refine ⟨_, ?_, .int _ _⟩
      simp only [Sem.run_bind, noguard (x' := .int k a) (by simp) (by simp), Result.andThen_ok, binOp, Op.shift, if_neg hb]
      rfl
  · rename_i k a k' b
    cases hx; cases hy
    split at hv
    · cases hv
    · rename_i hb
      cases hv
      refine ⟨_, ?_, .int _ _⟩
      simp only [Sem.run_bind, noguard (x' := .int k a) (by simp) (by simp), Result.andThen_ok, binOp, Op.shift, if_neg hb]
      rfl
  · rename_i k a k' b h1 h2
    cases hx; cases hy
    split at hv
    · cases hv
    · rename_i hk
      simp only [ne_eq, Decidable.not_not] at hk
      subst hk
      simp only [Sem.run_bind, noguard (x' := .int k a) (by simp) (by simp), Result.andThen_ok]
      have e : ∀ z, op ≠ .shl → op ≠ .shr → (match op with
        | .add | .sub | .mul => Op.intArith op k a b
        | .quo | .rem => Op.intDiv op k a b
        | .and | .or | .xor | .andNot => Op.intBits op k a b
        | _ => Op.intCmp op a b : Sem Value).run P w = z → (binOp op t (.int k a) (.int k b)).run P w = z := by
        intro z g1 g2 hz
        cases op <;> first | exact absurd rfl g1 | exact absurd rfl g2 | (simpa [binOp] using hz)
      cases op <;> simp only at hv
      case add => cases hv; exact ⟨_, e _ (by simp) (by simp) rfl, .int _ _⟩
      case sub => cases hv; exact ⟨_, e _ (by simp) (by simp) rfl, .int _ _⟩
      case mul => cases hv; exact ⟨_, e _ (by simp) (by simp) rfl, .int _ _⟩
      case quo =>
        split at hv
        · cases hv
        · rename_i h0; cases hv; exact ⟨_, e _ (by simp) (by simp) (by simp only [Op.intDiv, if_neg h0]; rfl), .int _ _⟩
      case rem =>
        split at hv
        · cases hv
        · rename_i h0; cases hv; exact ⟨_, e _ (by simp) (by simp) (by simp only [Op.intDiv, if_neg h0]; rfl), .int _ _⟩
      case and => cases hv; exact ⟨_, e _ (by simp) (by simp) rfl, .int _ _⟩
      case or => cases hv; exact ⟨_, e _ (by simp) (by simp) rfl, .int _ _⟩
      case xor => cases hv; exact ⟨_, e _ (by simp) (by simp) rfl, .int _ _⟩
      case andNot => cases hv; exact ⟨_, e _ (by simp) (by simp) rfl, .int _ _⟩
      case eql => cases hv; exact ⟨_, e _ (by simp) (by simp) rfl, .bool _⟩
      case neq => cases hv; exact ⟨_, e _ (by simp) (by simp) rfl, .bool _⟩
      case lss => cases hv; exact ⟨_, e _ (by simp) (by simp) rfl, .bool _⟩
      case leq => cases hv; exact ⟨_, e _ (by simp) (by simp) rfl, .bool _⟩
      case gtr => cases hv; exact ⟨_, e _ (by simp) (by simp) rfl, .bool _⟩
      case geq => cases hv; exact ⟨_, e _ (by simp) (by simp) rfl, .bool _⟩
      all_goals cases hv
  · rename_i a b
    cases hx; cases hy
    simp only [Sem.run_bind, noguard (x' := .string a) (by simp) (by simp), Result.andThen_ok]
    have e : ∀ z, op ≠ .shl → op ≠ .shr → (Op.stringOp op a b).run P w = z → (binOp op t (.string a) (.string b)).run P w = z := by
      intro z g1 g2 hz
      cases op <;> first | exact absurd rfl g1 | exact absurd rfl g2 | (simpa [binOp] using hz)
    cases op <;> simp only at hv
    case add =>
      split at hv
      · rename_i hs
        cases hv
        refine ⟨.string (a ++ b), e _ (by simp) (by simp) ?_, ?_⟩
        · simp only [Op.stringOp]
          rw [if_neg]
          · rfl
          · simp only [small, bl_length] at hs
            have := Nat.le_of_ble_eq_true hs
            have h3 : (IntKind.i64.max) = 2 ^ 63 - 1 := rfl
            rw [h3]
            have h4 : (2 * a.size + 8) * (1 + b.size + 1) ≥ (2 * a.size + 8) * 1 := Nat.mul_le_mul_left _ (by omega)
            have h5 : (2 * a.size + 8) * (1 + b.size + 1) ≥ 8 * (1 + b.size + 1) := Nat.mul_le_mul_right _ (by omega)
            generalize (2 * a.size + 8) * (1 + b.size + 1) = c at *
            omega
        · have : (⟨(bl a ++ bl b).toArray⟩ : ByteArray) = a ++ b := by
            rw [← mk_bl (a ++ b)]
            have : bl (a ++ b) = bl a ++ bl b := by simp [bl]
            rw [this]
          rw [this]; exact .string _
      · cases hv
    case eql => cases hv; exact ⟨_, e _ (by simp) (by simp) (by simp only [Op.stringOp, bl_eq]; rfl), .bool _⟩
    case neq => cases hv; exact ⟨_, e _ (by simp) (by simp) (by simp only [Op.stringOp, bl_eq]; rfl), .bool _⟩
    case lss => cases hv; exact ⟨_, e _ (by simp) (by simp) (by simp only [Op.stringOp, bl_eq]; rfl), .bool _⟩
    case leq => cases hv; exact ⟨_, e _ (by simp) (by simp) (by simp only [Op.stringOp, bl_eq]; rfl), .bool _⟩
    case gtr => cases hv; exact ⟨_, e _ (by simp) (by simp) (by simp only [Op.stringOp, bl_eq]; rfl), .bool _⟩
    case geq => cases hv; exact ⟨_, e _ (by simp) (by simp) (by simp only [Op.stringOp, bl_eq]; rfl), .bool _⟩
    all_goals cases hv
  · rename_i h1 h2 h3 h4
    simp only [Option.map_eq_some_iff] at hv
    obtain ⟨b, hb, rfl⟩ := hv
    refine ⟨_, ?_, .bool _⟩
    have he := eqVals_sound (w := w) hb hx hy
    simp only [Sem.run_bind, eq_sound hb hx hy, Result.andThen_ok, binOp_eql (hx.eqKind.trans (eqKind_of hb)), he, Sem.run_pure]
  · rename_i h1 h2 h3 h4
    simp only [Option.map_eq_some_iff] at hv
    obtain ⟨b, hb, rfl⟩ := hv
    refine ⟨_, ?_, .bool _⟩
    have he := eqVals_sound (w := w) hb hx hy
    simp only [Sem.run_bind, eq_sound hb hx hy, Result.andThen_ok, binOp_neq (hx.eqKind.trans (eqKind_of hb)), he, Sem.run_pure]
  · cases hv

end
end Go.AX

namespace Go.AX
open Go
section
variable {P : Program} {w : World} {NG B : Nat} {ρ : Map} {h : Heap}

theorem unV_sound {op : UnOp} {x x' v : Value} (hv : unV op x = some v) (hx : VR ρ x x') : ∃ v', (Op.unary op x').run P w = .ok v' w ∧ VR ρ v v' := by
  unfold unV at hv
  split at hv
  · cases hx; cases hv; exact ⟨_, rfl, .int _ _⟩
  · cases hx; cases hv; exact ⟨_, rfl, .int _ _⟩
  · cases hx; cases hv; exact ⟨_, rfl, .bool _⟩
  · cases hv

/-! ### slices and addresses -/
/-- An optional operand. -/
def OR (ρ : Map) (o o' : Option Value) : Prop := (o = none ∧ o' = none) ∨ ∃ v v', o = some v ∧ o' = some v' ∧ VR ρ v v'

theorem bound_run {d y n : Nat} {o o' : Option Value} (hn : boundOf d y o = some n) (ho : OR ρ o o') :
    (o = none ∧ o' = none ∧ n = d) ∨ ∃ k i, o' = some (.int k i) ∧ o = some (.int k i) ∧ n ≤ y ∧ ∀ y' c, y ≤ y' → (Instr.sliceBound (.int k i) y' c).run P w = .ok n w := by
  rcases ho with ⟨rfl, rfl⟩ | ⟨v, v', rfl, rfl, hv⟩
  · simp only [boundOf, Option.some.injEq] at hn; exact .inl ⟨rfl, rfl, hn.symm⟩
  · cases v <;> simp only [boundOf, reduceCtorEq] at hn
    cases hv
    split at hn
    · rename_i k i hi
      cases hn
      refine .inr ⟨_, _, rfl, rfl, by omega, fun y' c hy => ?_⟩
      simp only [Instr.sliceBound, asIntOf, Sem.run_bind, Sem.run_pure, Result.andThen_ok, Sem.run_ite]
      rw [if_pos ⟨hi.1, by omega⟩]
    · cases hn

theorem string_extract {s : ByteArray} {l n : Nat} : (⟨(((bl s).drop l).take n).toArray⟩ : ByteArray) = s.extract l (l + n) := by
  have := ByteArray.extract_mk (bl s) l (l + n)
  rw [mk_bl] at this
  rw [this, Nat.add_sub_cancel_left]

theorem sliceV_sound (hH : HR NG B ρ h w) {t : TypeId} {x x' v : Value} {lo hi mx lo' hi' mx' : Option Value} (hv : sliceV P h t x lo hi mx = some v) (hx : VR ρ x x') (h1 : OR ρ lo lo') (h2 : OR ρ hi hi') (h3 : OR ρ mx mx') :
    ∃ v', (Instr.sliceAt t x' lo' hi' mx').run P w = .ok v' w ∧ VR ρ v v' := by
  unfold sliceV at hv
  split at hv
  · rename_i s hu
    cases hx
    split at hv
    · cases hv
    · obtain rfl : mx' = none := by
        rcases h3 with ⟨_, h⟩ | ⟨_, _, h, _⟩
        · exact h
        · cases h
      simp only [Option.bind_eq_bind, Option.bind_eq_some_iff] at hv
      obtain ⟨hN, hh, lN, hl, hv⟩ := hv
      cases hv
      rw [bl_length] at hh
      have hle : hN ≤ s.size := by
        rcases bound_run (P := P) (w := w) hh h2 with ⟨_, _, h⟩ | ⟨_, _, _, _, h, _⟩ <;> omega
      have hle2 : lN ≤ hN := by
        rcases bound_run (P := P) (w := w) hl h1 with ⟨_, _, h⟩ | ⟨_, _, _, _, h, _⟩ <;> omega
      refine ⟨.string (s.extract lN hN), ?_, ?_⟩
      · rw [run_sliceAt_string w t _ _ _ _ hu]
        have : (Instr.sliceBounds false s.size s.size lo' hi' none).run P w = .ok (lN, hN, s.size) w := by
          rcases bound_run (P := P) (w := w) hh h2 with ⟨_, rfl, rfl⟩ | ⟨k, i, rfl, _, _, hr⟩ <;> rcases bound_run (P := P) (w := w) hl h1 with ⟨_, rfl, rfl⟩ | ⟨k2, i2, rfl, _, _, hr2⟩ <;>
            simp [Instr.sliceBounds, *]
        simp [Instr.slice, run_und hu, this]
      · have := string_extract (s := s) (l := lN) (n := hN - lN)
        rw [this, show lN + (hN - lN) = hN from by omega]; exact .string _
  · rename_i e a len cap hu
    simp only [Option.bind_eq_bind, Option.bind_eq_some_iff] at hv
    obtain ⟨mN, hm, hv⟩ := hv
    split at hv
    · cases hv
    · rename_i hmh
      simp only [Option.bind_eq_some_iff] at hv
      obtain ⟨hN, hh, lN, hl, size, hsz, hv⟩ := hv
      have hgen : ∀ (cap' : Nat) (a' : Option Addr), cap ≤ cap' → len ≤ cap' → ∃ m', (mx = none → m' = cap') ∧ (mx ≠ none → m' = mN) ∧ mN ≤ m' ∧ hN ≤ m' ∧ lN ≤ hN ∧ (mx = none → mN = cap) ∧ m' ≤ cap' ∧
          (Instr.slice t (.slice a' len cap') lo' hi' mx').run P w = .ok (.slice (if m' = lN then a' else a'.map (·.add (lN * size))) (hN - lN) (m' - lN)) w := by
        intro cap' a' hcap hlen
        have hb : ∃ m', (mx = none → m' = cap') ∧ (mx ≠ none → m' = mN) ∧ mN ≤ m' ∧ hN ≤ m' ∧ lN ≤ hN ∧ (mx = none → mN = cap) ∧ m' ≤ cap' ∧ (Instr.sliceBounds true len cap' lo' hi' mx').run P w = .ok (lN, hN, m') w := by
          have hl2 : lN ≤ hN := by rcases bound_run (P := P) (w := w) hl h1 with ⟨_, _, h⟩ | ⟨_, _, _, _, h, _⟩ <;> omega
          rcases bound_run (P := P) (w := w) hm h3 with ⟨em, rfl, rfl⟩ | ⟨km, im, rfl, em, hm1, hm2⟩
          · refine ⟨cap', fun _ => rfl, fun h => absurd em h, hcap, ?_, hl2, fun _ => rfl, Nat.le_refl _, ?_⟩
            · rcases bound_run (P := P) (w := w) hh h2 with ⟨_, _, h⟩ | ⟨_, _, _, _, h, _⟩ <;> omega
            · rcases bound_run (P := P) (w := w) hh h2 with ⟨_, rfl, rfl⟩ | ⟨k, i, rfl, _, hk, hr⟩ <;> rcases bound_run (P := P) (w := w) hl h1 with ⟨_, rfl, rfl⟩ | ⟨k2, i2, rfl, _, _, hr2⟩
              · simp [Instr.sliceBounds]
              · have := hr2 hN .sliceB (Nat.le_refl _)
                simp [Instr.sliceBounds, this]
              · have := hr cap' .sliceAcap (by omega)
                simp [Instr.sliceBounds, this]
              · have := hr cap' .sliceAcap (by omega)
                have := hr2 hN .sliceB (Nat.le_refl _)
                simp [Instr.sliceBounds, *]
          · have ehi : hi ≠ none := by rintro rfl; simp [em] at hmh
            refine ⟨mN, fun h => (by rw [em] at h; cases h), fun _ => rfl, Nat.le_refl _, ?_, hl2, fun h => (by rw [em] at h; cases h), by omega, ?_⟩
            · rcases bound_run (P := P) (w := w) hh h2 with ⟨h, _⟩ | ⟨_, _, _, _, h, _⟩
              · exact absurd h ehi
              · exact h
            · rcases bound_run (P := P) (w := w) hh h2 with ⟨h, _⟩ | ⟨k, i, rfl, _, hk, hr⟩
              · exact absurd h ehi
              · have q1 := hm2 cap' .slice3Acap (by omega)
                have q2 := hr mN .slice3B (Nat.le_refl _)
                rcases bound_run (P := P) (w := w) hl h1 with ⟨_, rfl, rfl⟩ | ⟨k2, i2, rfl, _, _, hr2⟩
                · simp [Instr.sliceBounds, q1, q2]
                · have q3 := hr2 hN .slice3C (Nat.le_refl _)
                  simp [Instr.sliceBounds, q1, q2, q3]
        obtain ⟨m', g1, g2, g3, g4, g5, g6, g7, g8⟩ := hb
        exact ⟨m', g1, g2, g3, g4, g5, g6, g7, by simp [Instr.slice, run_und hu, g8, run_size hsz]⟩
      have hE : P.elem t = e := by simp [Program.elem, hu]
      cases hx with
      | nilSlice =>
        cases hv
        obtain ⟨m', g1, g2, g3, g4, g5, g6, g7, g8⟩ := hgen 0 none (Nat.le_refl _) (Nat.le_refl _)
        have e1 : m' = 0 := by omega
        have e2 : mN = 0 := by omega
        have e3 : hN = 0 := by omega
        have e4 : lN = 0 := by omega
        subst e1 e2 e3 e4
        refine ⟨.slice none 0 0, ?_, .nilSlice⟩
        rw [run_sliceAt_slice w t _ _ _ _ (by rw [hE]; exact hu), g8]
        simp
      | slice x o l _ _ cap' a' hl hcap hlen haddr hex =>
        simp only [Option.isSome_none, Bool.false_eq_true, false_or] at hv
        split at hv
        case h_2 => cases hv
        rename_i b hb
        split at hv
        case isTrue => cases hv
        rename_i hes
        simp only [ne_eq, not_or, Decidable.not_not, Nat.not_lt] at hes
        obtain ⟨hes, hmh2⟩ := hes
        cases hv
        have hes : l.es = size := by
          obtain ⟨l0, q1, q2, _⟩ := hH.cells x b (blk_some hb)
          rw [hl] at q1; cases q1
          exact q2.es.trans hes
        obtain ⟨m', g1, g2, g3, g4, g5, g6, g7, g8⟩ := hgen cap' (some a') hcap hlen
        refine ⟨_, by rw [run_sliceAt_slice w t _ _ _ _ (by rw [hE]; exact hu), g8], ?_⟩
        have hgo : ∀ A, (m' - lN ≠ 0 → A = ⟨l.b, l.base + (o + lN * size), none⟩ ∧ l.base + (o + lN * size) + (m' - lN) * l.es ≤ l.size) → VR ρ (.slice (some ⟨x, o + lN * size, none⟩) (hN - lN) (mN - lN)) (.slice (some A) (hN - lN) (m' - lN)) :=
          fun A hA => .slice x _ l _ _ _ A hl (by omega) (by omega) hA (by
            by_cases e : mx = none
            · have e1 := g1 e
              have e6 := g6 e
              rcases hex with h | h
              · left; omega
              · right
                rw [e6, hes, Nat.add_assoc, ← Nat.add_mul, ← h, hes]
                congr 2; omega
            · left; rw [g2 e])
        by_cases em : m' = lN
        · rw [if_pos em]
          exact hgo _ fun h => absurd (by omega) h
        · rw [if_neg em]
          refine hgo _ fun _ => ?_
          obtain ⟨ha, hs⟩ := haddr (by omega)
          subst ha
          refine ⟨by simp only [add_eq, Nat.add_assoc], ?_⟩
          rw [hes] at hs ⊢
          have : lN * size + (m' - lN) * size = m' * size := by rw [← Nat.add_mul]; congr 1; omega
          have : m' * size ≤ cap' * size := Nat.mul_le_mul_right _ g7
          omega
  · cases hv
end
end Go.AX

namespace Go.AX
open Go
section
variable {P : Program} {w : World} {NG B : Nat} {ρ : Map} {h : Heap}

theorem fieldAddrV_sound {s : TypeId} {x x' v : Value} {i : Nat} (hv : fieldAddrV P s x i = some v) (hx : VR ρ x x') : ∃ v', (Instr.fieldAt s x' i).run P w = .ok v' w ∧ VR ρ v v' := by
  unfold fieldAddrV at hv
  split at hv
  · rename_i fs a hu
    split at hv
    · rename_i f hf hs
      split at hv
      · cases hv
      · rename_i n hn hsz
        cases hv
        cases hx with
        | ptr x o l hl =>
          refine ⟨_, ?_, .ptr x (o + f.offset) l hl⟩
          have : n ≠ 0 := fun e => hn (by rw [e])
          simp [Instr.fieldAt, run_und hu, hf, Instr.sureAddr, fieldPlace, run_size hsz, this, add_eq, Nat.add_assoc]
      · cases hv
    · cases hv
  · cases hv

theorem indexAddrV_sound {t : TypeId} {x i x' i' v : Value} (hv : indexAddrV P t x i = some v) (hx : VR ρ x x') (hi : VR ρ i i') : ∃ v', (Instr.indexAt t x' i').run P w = .ok v' w ∧ VR ρ v v' := by
  unfold indexAddrV at hv
  split at hv
  · rename_i e a len cap k i hu
    cases hi
    split at hv
    · rename_i hc
      simp only [Option.map_eq_some_iff] at hv
      obtain ⟨n, hn, rfl⟩ := hv
      cases hx with
      | slice x o l _ _ cap' a' hl hcap hlen haddr _ =>
        obtain ⟨ha, hs⟩ := haddr (by omega)
        subst ha
        refine ⟨_, ?_, .ptr x (o + i.toNat * n) l hl⟩
        simp only [Instr.indexAt, asIntOf, Sem.run_bind, Sem.run_pure, Result.andThen_ok, run_und hu]
        simp [hc.2.1, hc.2.2, run_size hn, add_eq, Nat.add_assoc]
    · cases hv
  · rename_i len e a k i hu
    cases hi
    split at hv
    · rename_i hc
      simp only [Option.map_eq_some_iff] at hv
      obtain ⟨n, hn, rfl⟩ := hv
      cases hx with
      | ptr x o l hl =>
        refine ⟨_, ?_, .ptr x (o + i.toNat * n) l hl⟩
        simp only [Instr.indexAt, asIntOf, Sem.run_bind, Sem.run_pure, Result.andThen_ok, run_und hu, Instr.sureAddr]
        simp [hc.2.1, hc.2.2, run_size hn, add_eq, Nat.add_assoc]
    · cases hv
  · cases hv

theorem indexV_sound {t : TypeId} {x i x' i' v : Value} (hv : indexV P t x i = some v) (hx : VR ρ x x') (hi : VR ρ i i') : ∃ v', (Instr.index t x' i').run P w = .ok v' w ∧ VR ρ v v' := by
  unfold indexV at hv
  split at hv
  · rename_i s k i hu
    cases hi; cases hx
    split at hv
    · rename_i h0
      simp only [Option.map_eq_some_iff] at hv
      obtain ⟨b, hb, rfl⟩ := hv
      refine ⟨_, ?_, .int _ _⟩
      have hlt : i.toNat < s.size := by rw [← bl_length]; exact (List.getElem?_eq_some_iff.1 hb).1
      have hb' : s[i.toNat]? = some b := by
        rw [ByteArray.getElem?_lt' _ _ hlt]
        have := (List.getElem?_eq_some_iff.1 hb).2
        rw [← this]; rfl
      simp only [Instr.index, asIntOf, Sem.run_bind, Sem.run_pure, Result.andThen_ok, run_und hu, if_pos h0, hb']
    · cases hv
  · rename_i len e cs k i hu
    cases hi
    obtain ⟨cs', rfl, hcs⟩ := hx.agg_inv
    split at hv
    · rename_i hc
      simp only [Option.bind_eq_some_iff] at hv
      obtain ⟨n, hn, hp⟩ := hv
      obtain ⟨v', h1, h2⟩ := part_sound (w := w) hcs hp
      refine ⟨v', ?_, h2⟩
      simp only [Instr.index, asIntOf, Sem.run_bind, Sem.run_pure, Result.andThen_ok, run_und hu, Sem.run_ite]
      simpa [hc.1, hc.2, run_size hn] using h1
    · cases hv
  · cases hv

theorem fieldV_sound {t : TypeId} {x x' v : Value} {i : Nat} (hv : fieldV P t x i = some v) (hx : VR ρ x x') : ∃ v', (Instr.field t x' i).run P w = .ok v' w ∧ VR ρ v v' := by
  unfold fieldV at hv
  split at hv
  · rename_i fs cs hu
    obtain ⟨cs', rfl, hcs⟩ := hx.agg_inv
    simp only [Option.bind_eq_some_iff] at hv
    obtain ⟨f, hf, hp⟩ := hv
    obtain ⟨v', h1, h2⟩ := part_sound (w := w) hcs hp
    refine ⟨v', ?_, h2⟩
    simpa [Instr.field, run_und hu, hf, asAgg] using h1
  · cases hv

theorem lenV_sound {t : TypeId} {x x' v : Value} {ty : TypeId} {ts : Array TypeId} (ht : ts[0]? = some t) (hv : lenV P t x = some v) (hx : VR ρ x x') : ∃ v', (Builtin.len_ ts ty #[x']).run P w = .ok v' w ∧ VR ρ v v' := by
  unfold lenV at hv
  split at hv
  · rename_i s hu; cases hx; cases hv; refine ⟨_, ?_, .int _ _⟩; simp [Builtin.len_, ht, run_und hu, bl_length, goInt]
  · rename_i e a n c hu
    cases hv
    cases hx with
    | nilSlice => refine ⟨_, ?_, .int _ _⟩; simp [Builtin.len_, ht, run_und hu, goInt]
    | slice => refine ⟨_, ?_, .int _ _⟩; simp [Builtin.len_, ht, run_und hu, goInt]
  · rename_i n e hu
    cases hv
    refine ⟨_, ?_, .int _ _⟩; simp [Builtin.len_, ht, run_und hu, goInt]
  · cases hv

theorem minInts_sound : ∀ (l l' : List Value) {x x' v : Value} (_ : minInts x l = some v) (_ : VR ρ x x') (_ : LR ρ l l'), ∃ v', (l'.foldlM Builtin.min2 x').run P w = .ok v' w ∧ VR ρ v v' := by
  intro l
  induction l with
  | nil =>
    intro l' x x' v hv hx hl
    cases hl.nil_inv
    simp only [minInts, Option.some.injEq] at hv
    subst hv
    exact ⟨x', rfl, hx⟩
  | cons y l ih =>
    intro l' x x' v hv hx hl
    obtain ⟨y', m', rfl, hy, hm⟩ := hl.cons_inv
    unfold minInts at hv
    split at hv
    · rename_i h; cases h
    · rename_i k a k' b l0 h
      cases h
      cases hx; cases hy
      split at hv
      · rename_i hk; subst hk
        obtain ⟨v', h1, h2⟩ := ih m' hv (.int _ _) hm
        refine ⟨v', ?_, h2⟩
        simp only [List.foldlM_cons, Sem.run_bind, Builtin.min2, Sem.run_pure, Result.andThen_ok]
        exact h1
      · cases hv
    · cases hv
theorem maxInts_sound : ∀ (l l' : List Value) {x x' v : Value} (_ : maxInts x l = some v) (_ : VR ρ x x') (_ : LR ρ l l'), ∃ v', (l'.foldlM Builtin.max2 x').run P w = .ok v' w ∧ VR ρ v v' := by
  intro l
  induction l with
  | nil =>
    intro l' x x' v hv hx hl
    cases hl.nil_inv
    simp only [maxInts, Option.some.injEq] at hv
    subst hv
    exact ⟨x', rfl, hx⟩
  | cons y l ih =>
    intro l' x x' v hv hx hl
    obtain ⟨y', m', rfl, hy, hm⟩ := hl.cons_inv
    unfold maxInts at hv
    split at hv
    · rename_i h; cases h
    · rename_i k a k' b l0 h
      cases h
      cases hx; cases hy
      split at hv
      · rename_i hk; subst hk
        obtain ⟨v', h1, h2⟩ := ih m' hv (.int _ _) hm
        refine ⟨v', ?_, h2⟩
        simp only [List.foldlM_cons, Sem.run_bind, Builtin.max2, Sem.run_pure, Result.andThen_ok]
        exact h1
      · cases hv
    · cases hv

theorem nilV_sound {x x' v : Value} {o : Oper} {X : Operand} {cev : Operand → Value} (ho : o.op = .nilCheck X) (hc : cev X = x') (hv : nilV x = some v) (hx : VR ρ x x') : ∃ v', (execOp cev o).run P w = .ok (.value v') w ∧ VR ρ v v' := by
  have e : x = v := by
    unfold nilV at hv
    split at hv
    · cases hv
    · cases hv
    · cases hv
    · cases hv
    · exact Option.some.inj hv
  subst e
  refine ⟨x', ?_, hx⟩
  simp only [execOp, ho, hc]
  cases hx <;> first | (simp [nilV] at hv; done) | rfl | skip
  rename_i fn a b a' b' _ _ _ _
  cases fn <;> first | rfl | (simp [nilV] at hv; done)

theorem sliceDataV_sound {x x' v : Value} {ty : TypeId} {ts : Array TypeId} (hv : sliceDataV x = some v) (hx : VR ρ x x') : ∃ v', (Builtin.unsafeSliceData_ ts ty #[x']).run P w = .ok v' w ∧ VR ρ v v' := by
  unfold sliceDataV at hv
  split at hv
  · cases hv; cases hx; exact ⟨_, rfl, .nilPtr⟩
  · split at hv
    · rename_i a n c hc
      cases hv
      cases hx with
      | slice x o l _ _ cap' a' hl hcap hlen haddr _ =>
        obtain ⟨ha, _⟩ := haddr (by omega)
        subst ha
        refine ⟨_, ?_, .ptr x o l hl⟩
        have e : Builtin.unsafeSliceData_ ts ty #[.slice (some ⟨l.b, l.base + o, none⟩) n cap'] = (if cap' ≠ 0 then pure (.pointer (some ⟨l.b, l.base + o, none⟩)) else (do if (← viewAt l.b).isSome then pure (.pointer (some ⟨l.b, l.base + o, none⟩)) else pure (.pointer (some ⟨← newObj (.view ⟨l.b, l.base + o, none⟩ (← elemOf ty)), 0, none⟩)))) := rfl
        have : cap' ≠ 0 := by omega
        rw [e, if_pos this]
        rfl
    · cases hv
  · cases hv
end
end Go.AX

namespace Go.AX
open Go
section
variable {P : Program} {w : World} {NG B : Nat} {ρ : Map} {h : Heap}

theorem foldl_set : ∀ (l : List Value) (k off : Nat) (A : Array Value), let R := (l.zipIdx k).foldl (fun cs (x : Value × Nat) => cs.setIfInBounds (off + x.2) x.1) A
    R.size = A.size ∧ ∀ i, R[i]? = if off + k ≤ i ∧ i < off + k + l.length ∧ i < A.size then l[i - (off + k)]? else A[i]? := by
  intro l
  induction l with
  | nil => intro k off A; simp; intro i h1 h2; omega
  | cons v l ih =>
    intro k off A
    simp only [List.zipIdx_cons, List.foldl_cons]
    obtain ⟨h1, h2⟩ := ih (k + 1) off (A.setIfInBounds (off + k) v)
    refine ⟨by rw [h1]; simp, fun i => ?_⟩
    rw [h2]
    simp only [Array.size_setIfInBounds, List.length_cons]
    by_cases hi : off + (k + 1) ≤ i ∧ i < off + (k + 1) + l.length ∧ i < A.size
    · rw [if_pos hi, if_pos (by omega)]
      have : i - (off + k) = (i - (off + (k + 1))) + 1 := by omega
      rw [this, List.getElem?_cons_succ]
    · rw [if_neg hi]
      by_cases hk : i = off + k
      · subst hk
        by_cases hs : off + k < A.size
        · rw [if_pos (by omega)]
          simp [hs]
        · rw [if_neg (by omega)]
          simp [hs]
      · rw [if_neg (by omega), Array.getElem?_setIfInBounds_ne (by omega)]

theorem fill_sound {place : Nat → Option (Nat × Nat)} {α : Type} (f g : α → Value) (ix : α → Nat) : ∀ (l : List α) {cells cells' r : List Value} (_ : ∀ a, a ∈ l → VR ρ (f a) (g a)) (_ : LR ρ cells cells')
    (_ : fillL place cells (l.map fun a => (ix a, f a)) = some r), ∃ r', Instr.fill place cells'.toArray (l.map fun a => (ix a, g a)) = some r'.toArray ∧ LR ρ r r' := by
  intro l
  induction l with
  | nil => intro cells cells' r _ hc hr; simp only [List.map_nil, fillL, Option.some.injEq] at hr; subst hr; exact ⟨cells', rfl, hc⟩
  | cons a l ih =>
    intro cells cells' r hv hc hr
    simp only [List.map_cons, fillL] at hr
    split at hr
    · cases hr
    · rename_i off size hp
      split at hr
      · cases hr
      · rename_i hno
        split at hr
        · rename_i cells2 hov
          have hva := (hv a (by simp)).cells
          have hsz : (g a).cells.size = (f a).cells.size := by have := hva.1; simpa using this.symm
          obtain ⟨q1, q2, q3⟩ := over_get _ _ _ _ hov
          obtain ⟨p1, p2⟩ := foldl_set (g a).cells.toList 0 off cells'.toArray
          have hl : (f a).cells.toList.length = size := by simp; omega
          have hl' : (g a).cells.toList.length = size := by simp [hsz]; omega
          have hlen := hc.1
          have hcells2 : LR ρ cells2 (((g a).cells.toList.zipIdx 0).foldl (fun cs (x : Value × Nat) => cs.setIfInBounds (off + x.2) x.1) cells'.toArray).toList := by
            refine ⟨by simp only [Array.length_toList]; rw [p1, q1]; simpa using hlen, fun i x y hx hy => ?_⟩
            rw [q3] at hx
            rw [Array.getElem?_toList, p2] at hy
            simp only [Nat.add_zero, List.size_toArray, hl'] at hy
            rw [hl] at hx
            by_cases hi : off ≤ i ∧ i < off + size
            · rw [if_pos hi] at hx
              rw [if_pos (by omega)] at hy
              exact hva.2 _ x y hx hy
            · rw [if_neg hi] at hx
              rw [if_neg (by omega)] at hy
              exact hc.2 i x y hx (by simpa using hy)
          obtain ⟨r', h1, h2⟩ := ih (fun b hb => hv b (by simp [hb])) hcells2 hr
          refine ⟨r', ?_, h2⟩
          simp only [List.map_cons, Instr.fill, hp]
          rw [if_neg]
          · rw [Array.toArray_toList] at h1
            rw [← h1]
            congr 1
            rw [← Array.foldl_toList, Array.toList_zipIdx]
          · simp only [Bool.or_eq_true, decide_eq_true_eq, List.size_toArray, not_or]
            omega
        · cases hr

theorem buildV_sound {t : TypeId} {v : Value} {parts : Array (Nat × Operand)} {ev cev : Operand → Value} (hp : ∀ a, a ∈ parts.toList → VR ρ (ev a.2) (cev a.2))
    (hv : buildV P t (parts.toList.map fun (i, x) => (i, ev x)) = some v) : ∃ v', (Instr.build t (parts.map fun (i, x) => (i, cev x))).run P w = .ok v' w ∧ VR ρ v v' := by
  unfold buildV at hv
  split at hv
  · rename_i z fs hz hu
    split at hv
    · rename_i places hpl
      simp only [Option.map_eq_some_iff] at hv
      obtain ⟨r, hr, rfl⟩ := hv
      obtain ⟨⟨i, hi, hzz⟩, hcl⟩ := zeroOf_eq hz
      obtain ⟨r', h1, h2⟩ := fill_sound (fun a : Nat × Operand => ev a.2) (fun a => cev a.2) (fun a => a.1) parts.toList (fun a ha => hp a ha) (VR.cells (VR.closed (ρ := ρ) hcl)) hr
      refine ⟨.agg r'.toArray, run_build w t _ _ ?_, h2.agg⟩
      unfold Program.built
      unfold placesOf at hpl
      simp only [hi, hu, hzz, hpl]
      simpa using h1
    · cases hv
  · rename_i z n e hz hu
    split at hv
    · rename_i n hn
      simp only [Option.map_eq_some_iff] at hv
      obtain ⟨r, hr, rfl⟩ := hv
      obtain ⟨⟨i, hi, hzz⟩, hcl⟩ := zeroOf_eq hz
      obtain ⟨r', h1, h2⟩ := fill_sound (fun a : Nat × Operand => ev a.2) (fun a => cev a.2) (fun a => a.1) parts.toList (fun a ha => hp a ha) (VR.cells (VR.closed (ρ := ρ) hcl)) hr
      refine ⟨.agg r'.toArray, run_build w t _ _ ?_, h2.agg⟩
      unfold Program.built
      simp only [AX.sizeOf, Option.map_eq_some_iff] at hn
      obtain ⟨ie, hie, rfl⟩ := hn
      simp only [hi, hu, hzz, hie]
      simpa using h1
    · cases hv
  · cases hv
end
end Go.AX

namespace Go.AX
open Go
section
variable {P : Program} {w : World} {NG B : Nat} {ρ : Map} {h : Heap}

theorem bytesOf_eq : ∀ (l : List Value) {b : List UInt8} (_ : bytesOf l = some b), ∃ ns : List Int, l = ns.map (Value.int .u8) ∧ b = ns.map fun n => UInt8.ofNat n.toNat := by
  intro l
  induction l with
  | nil => intro b hb; simp only [bytesOf, Option.some.injEq] at hb; exact ⟨[], rfl, hb.symm⟩
  | cons v l ih =>
    intro b hb
    unfold bytesOf at hb
    split at hb
    · rename_i e; cases e
    · rename_i n l0 e
      cases e
      simp only [Option.map_eq_some_iff] at hb
      obtain ⟨b', h1, rfl⟩ := hb
      obtain ⟨ns, rfl, rfl⟩ := ih h1
      exact ⟨n :: ns, rfl, rfl⟩
    · cases hb
theorem runesOf_eq : ∀ (l : List Value) {b : List UInt8} (_ : runesOf l = some b), ∃ ns : List Int, l = ns.map (Value.int .i32) ∧ b = ns.flatMap fun n => (Utf8.encode n).data.toList := by
  intro l
  induction l with
  | nil => intro b hb; simp only [runesOf, Option.some.injEq] at hb; exact ⟨[], rfl, hb.symm⟩
  | cons v l ih =>
    intro b hb
    unfold runesOf at hb
    split at hb
    · rename_i e; cases e
    · rename_i n l0 e
      cases e
      simp only [Option.map_eq_some_iff] at hb
      obtain ⟨b', h1, rfl⟩ := hb
      obtain ⟨ns, rfl, rfl⟩ := ih h1
      exact ⟨n :: ns, rfl, by simp⟩
    · cases hb
theorem LR.ints {k : IntKind} : ∀ (ns : List Int) {l' : List Value} (_ : LR ρ (ns.map (Value.int k)) l'), l' = ns.map (Value.int k) := by
  intro ns
  induction ns with
  | nil => intro l' h; exact h.nil_inv
  | cons n ns ih =>
    intro l' h
    obtain ⟨v', m, rfl, h1, h2⟩ := h.cons_inv
    cases h1
    rw [ih h2]; rfl

theorem run_forIn_runes {P : Program} {w : World} (f : Value → ByteArray → Sem (ForInStep ByteArray))
    (hf : ∀ (n : Int) (r : ByteArray), (f (.int .i32 n) r).run P w = .ok (.yield (r ++ Utf8.encode n)) w) :
    ∀ (ns : List Int) (s : ByteArray), (forIn (ns.map (Value.int .i32)) s f).run P w = .ok ⟨(s.data.toList ++ ns.flatMap fun n => (Utf8.encode n).data.toList).toArray⟩ w := by
  intro ns
  induction ns with
  | nil => intro s; cases s; simp [Sem.run_pure]
  | cons n ns ih =>
    intro s
    simp only [List.map_cons, List.forIn_cons, Sem.run_bind, hf, Result.andThen]
    rw [ih]
    simp
theorem run_runesToString {P : Program} (w : World) (a : Addr) (len cap : Nat) (ns : List Int)
    (h : (loadCells a len).run P w = .ok (ns.map (Value.int .i32)).toArray w) :
    (Conv.runesToString (.slice (some a) len cap)).run P w = .ok (.string ⟨(ns.flatMap fun n => (Utf8.encode n).data.toList).toArray⟩) w := by
  unfold Conv.runesToString
  simp only [Sem.run_bind, h, Result.andThen, List.forIn_toArray]
  rw [run_forIn_runes _ (by intro n r; simp [Sem.run_pure])]
  simp [Sem.run_pure]

theorem rowAt_self {P : Program} (d e count off n s : Nat) (hs : P.cellsOf e = s) (h0 : s ≠ 0) (hoff : off % s = 0) (hin : off / s + n ≤ count) :
    rowAt P (sameLayout P P.depth · e) (d + 1) e count off n = true := by
  have hfit : sameLayout P P.depth e e = true := by
    have : P.depth = (2 * (P.types.size + Made.depth) + 1) + 1 := rfl
    rw [this]
    simp [sameLayout]
  simp only [rowAt, hs]
  rw [if_neg h0]
  simp [hoff, hin, hfit]
theorem liesAt_self {P : Program} (d e count off n s : Nat) (hs : P.cellsOf e = s) (h0 : s ≠ 0) (hoff : off % s = 0) (hin : off / s + n ≤ count) : liesAt P (d + 1) e count off e n = true := by
  have hd : P.depth = (2 * (P.types.size + Made.depth) + 1) + 1 := rfl
  have := rowAt_self (P := P) (2 * (P.types.size + Made.depth) + 1) e count off n s hs h0 hoff hin
  rw [← hd] at this
  simp [liesAt, this]
theorem variablesAt_self {g off e n s : Nat} {c : Array Value} {fr : Nat × Nat} (hg : w.heap[g]? = some (.cells c e fr)) (hs : AX.sizeOf P e = some s) (h0 : s ≠ 0) (hoff : off % s = 0) (hin : off + n * s ≤ c.size) :
    (variablesAt ⟨g, off, none⟩ e n).run P w = .ok true w := by
  have hc : P.cellsOf e = s := by
    simp only [AX.sizeOf] at hs
    simp [Program.cellsOf, hs]
  have hd : P.depth = (2 * (P.types.size + Made.depth) + 1) + 1 := rfl
  have h1 : off / s + n ≤ c.size / s := by
    have hp : 0 < s := Nat.pos_of_ne_zero h0
    rw [Nat.le_div_iff_mul_le hp, Nat.add_mul]
    have : off / s * s = off := by have := Nat.div_add_mod off s; rw [Nat.mul_comm]; omega
    omega
  have := liesAt_self (P := P) (2 * (P.types.size + Made.depth) + 1) e (c.size / s) off n s hc h0 hoff h1
  rw [← hd] at this
  simp [variablesAt, World.shape?, hg, hc, this]

theorem convV_sound (hH : HR NG B ρ h w) {src dst : TypeId} {x x' v : Value} (hv : convV P h src dst x = some v) (hx : VR ρ x x') : ∃ v', (convert src dst x').run P w = .ok v' w ∧ VR ρ v v' := by
  unfold convV at hv
  split at hv
  · rename_i k0 k k1 n hs hd; cases hx; cases hv; refine ⟨_, ?_, .int _ _⟩; simp [convert, run_und hs, run_und hd, Conv.intToInt]
  · rename_i k0 k1 n hs hd; cases hx; cases hv; refine ⟨_, ?_, .string _⟩; simp [convert, run_und hs, run_und hd, Conv.intToString]
  · rename_i s hs hd; cases hx; cases hv; refine ⟨_, ?_, .string _⟩; simp [convert, run_und hs, run_und hd]
  · rename_i e n c hs hd
    cases hx
    split at hv
    · rename_i he; cases hv; refine ⟨_, ?_, .string _⟩; simp [convert, run_und hs, run_und hd, run_und he, Conv.bytesToString]
    · rename_i he; cases hv; refine ⟨_, ?_, .string _⟩; simp [convert, run_und hs, run_und hd, run_und he, Conv.runesToString]
    · cases hv
  · rename_i e a len cap hs hd
    cases hx with
    | slice x o l _ _ cap' a' hl hcap hlen haddr _ =>
      split at hv
      · rename_i he _
        simp only [Option.bind_eq_bind, Option.bind_eq_some_iff] at hv
        obtain ⟨r, hr, b, hb, hv⟩ := hv
        cases hv
        obtain ⟨r', h1, h2, h3⟩ := read_sound hH hr hl
        obtain ⟨ns, rfl, rfl⟩ := bytesOf_eq _ hb
        have h4 := LR.ints ns h1
        subst h4
        refine ⟨.string _, ?_, .string _⟩
        have hload : (loadCells a' len).run P w = .ok (ns.map (Value.int .u8)).toArray w := by
          by_cases h0 : cap' = 0
          · have : len = 0 := by omega
            subst this
            have : ns = [] := by cases ns with
              | nil => rfl
              | cons n ns => simp at h2
            subst this
            rfl
          · obtain ⟨ha, _⟩ := haddr h0
            subst ha
            exact run_loadCells_of h2 h3
        rw [run_convert_bytes_string w src dst e _ _ _ hs he hd, run_bytesToString w a' len cap' ns hload, foldl_push_bytes]
        have e0 : ByteArray.empty.data = #[] := rfl
        rw [e0]
        simp
      · rename_i he _
        simp only [Option.bind_eq_bind, Option.bind_eq_some_iff] at hv
        obtain ⟨r, hr, b, hb, hv⟩ := hv
        cases hv
        obtain ⟨r', h1, h2, h3⟩ := read_sound hH hr hl
        obtain ⟨ns, rfl, rfl⟩ := runesOf_eq _ hb
        have h4 := LR.ints ns h1
        subst h4
        refine ⟨.string _, ?_, .string _⟩
        have hload : (loadCells a' len).run P w = .ok (ns.map (Value.int .i32)).toArray w := by
          by_cases h0 : cap' = 0
          · have : len = 0 := by omega
            subst this
            have : ns = [] := by cases ns with
              | nil => rfl
              | cons n ns => simp at h2
            subst this
            rfl
          · obtain ⟨ha, _⟩ := haddr h0
            subst ha
            exact run_loadCells_of h2 h3
        have e1 : (convert src dst (.slice (some a') len cap')).run P w = (Conv.runesToString (.slice (some a') len cap')).run P w := by
          simp [convert, run_und hs, run_und hd, run_und he]
        rw [e1, run_runesToString w a' len cap' ns hload]
      · cases hv
  · rename_i e hs hd; cases hx; cases hv; refine ⟨_, ?_, .nilPtr⟩; simp [convert, run_und hs, run_und hd, Conv.unsafePointer]
  · rename_i e hs hd; cases hx; cases hv; refine ⟨_, ?_, .nilPtr⟩; simp [convert, run_und hs, run_und hd, Conv.unsafePointer]
  · rename_i t a hs hd
    split at hv
    · rename_i b n hb _ hn
      split at hv
      · rename_i hc
        cases hv
        cases hx with
        | ptr x o l hl =>
          obtain ⟨l0, q1, q2, _⟩ := hH.cells x b (blk_some hb)
          rw [hl] at q1; cases q1
          obtain ⟨⟨c, fr, g1, g2, _, _⟩, _, _, g7, _⟩ := q2
          refine ⟨_, ?_, .ptr x o l hl⟩
          have hsh : w.shape? l.b = some (b.elem, c.size) := by simp [World.shape?, g1]
          have hlt : ¬ c.size ≤ l.base + o := by simp only at hc; omega
          simp [convert, run_und hs, run_und hd, Conv.unsafePointer, Conv.seenAt, viewAt, cellsIn, hsh, run_size hn, hc.2, hlt]
      · cases hv
    · cases hv
  · rename_i u a hs hd
    split at hv
    · rename_i b n hb _ hn
      split at hv
      · rename_i hc
        cases hv
        cases hx with
        | ptr x o l hl =>
          obtain ⟨l0, q1, q2, _⟩ := hH.cells x b (blk_some hb)
          rw [hl] at q1; cases q1
          obtain ⟨⟨c, fr, g1, g2, _, _⟩, _, g6, g7, _⟩ := q2
          obtain ⟨c1, c2, c3, c4, c5⟩ := hc
          simp only at c4 c5
          subst c1
          refine ⟨_, ?_, .ptr x o l hl⟩
          have hsh : w.shape? l.b = some (b.elem, c.size) := by simp [World.shape?, g1]
          have hva := variablesAt_self (P := P) (w := w) (n := 1) (off := l.base + o) g1 hn c2 (by
            rw [c3] at g6
            rw [Nat.add_mod, g6, c4]; simp) (by omega)
          simp [convert, run_und hs, run_und hd, Conv.unsafePointer, Conv.seenAt, viewAt, hsh, run_size hn, hva]
      · cases hv
    · cases hv
  · cases hv
end
end Go.AX

namespace Go.AX
open Go
section
variable {P : Program} {w : World} {NG B : Nat} {ρ : Map} {h : Heap}

theorem run_builtin {cev : Operand → Value} {o : Oper} {b : Builtin} {args : Array Operand} {ts : Array TypeId} (ho : o.op = .call { callee := .builtin b, args, argTypes := ts }) :
    (execOp cev o).run P w = (builtin b ts o.type (args.map fun | .const _ => true | _ => false) (args.map cev)).run P w := by
  simp only [execOp, ho, resolve, Sem.run_bind, Sem.run_pure, Result.andThen_ok, invoke]
  rfl

theorem one_arg {args : Array Operand} {x : Operand} (h : args.toList = [x]) : args = #[x] := by
  apply Array.ext'; simpa using h

theorem OR.of {ev cev : Operand → Value} {o : Option Operand} (h : ∀ x, o = some x → VR ρ (ev x) (cev x)) : OR ρ (o.map ev) (o.map cev) := by
  cases o with
  | none => exact .inl ⟨rfl, rfl⟩
  | some x => exact .inr ⟨_, _, rfl, rfl, h x rfl⟩

theorem quiet_sound (hH : HR NG B ρ h w) {o : Oper} {ev cev : Operand → Value} {v : Value} (hq : quiet P o ev h = some v) (hv : ∀ x, x ∈ o.op.operands → VR ρ (ev x) (cev x)) :
    ∃ v', (execOp cev o).run P w = .ok (.value v') w ∧ VR ρ v v' := by
  unfold quiet at hq
  split at hq
  · rename_i x ho; cases hq; exact ⟨cev x, by simp [execOp, ho], hv x (by simp [ho, Op.operands])⟩
  · rename_i x ho; cases hq; exact ⟨cev x, by simp [execOp, ho], hv x (by simp [ho, Op.operands])⟩
  · rename_i c a b ho
    have hc := hv c (by simp [ho, Op.operands])
    split at hq
    · rename_i t hct
      rw [hct] at hc
      cases hq
      generalize hcc : cev c = z at hc
      cases hc
      refine ⟨if t then cev a else cev b, by simp [execOp, ho, hcc, asBool], ?_⟩
      cases t
      · exact hv b (by simp [ho, Op.operands])
      · exact hv a (by simp [ho, Op.operands])
    · cases hq
  · rename_i t a ho
    have hc := hv a (by simp [ho, Op.operands])
    split at hq
    · rename_i A hct
      rw [hct] at hc
      generalize hcc : cev a = z at hc
      cases hc with
      | ptr x o' l hl =>
        obtain ⟨v', h1, h2⟩ := loadVar_sound hH hl hq
        exact ⟨v', by simp [execOp, ho, hcc, Instr.loadAt, Instr.sureAddr, h1], h2⟩
    · cases hq
  · rename_i x ho
    exact nilV_sound ho rfl hq (hv x (by simp [ho, Op.operands]))
  · rename_i op t x y yt ho
    obtain ⟨v', h1, h2⟩ := binV_sound (w := w) (X := x) (Y := y) hq (hv x (by simp [ho, Op.operands])) (hv y (by simp [ho, Op.operands]))
    refine ⟨v', ?_, h2⟩
    simp only [execOp, ho]
    simp only [Sem.run_bind] at h1 ⊢
    rw [h1]
    rfl
  · rename_i op t x ho
    obtain ⟨v', h1, h2⟩ := unV_sound (P := P) (w := w) hq (hv x (by simp [ho, Op.operands]))
    exact ⟨v', by simp [execOp, ho, h1], h2⟩
  · rename_i s d x ho
    obtain ⟨v', h1, h2⟩ := convV_sound hH hq (hv x (by simp [ho, Op.operands]))
    exact ⟨v', by simp [execOp, ho, h1], h2⟩
  · rename_i t x ho
    have hx := hv x (by simp [ho, Op.operands])
    split at hq
    · cases hq
    · cases hq
    · rename_i d h1 h2
      cases hq
      refine ⟨.iface t (cev x), ?_, .iface _ _ _ hx⟩
      have : (Instr.makeInterface t (cev x)).run P w = .ok (.iface t (cev x)) w := by
        simp only [Instr.makeInterface, Sem.run_bind, run_und h2, Result.andThen_ok]
        cases d <;> first | rfl | exact absurd h2 (h1 _)
      simp [execOp, ho, this]
  · rename_i fn first captured ho
    cases hq
    refine ⟨.func fn (first.map cev) (captured.map cev), by simp [execOp, ho, Instr.makeFunc], ?_⟩
    refine .func _ _ _ _ _ (by simp) (by simp) (fun i x y hx hy => ?_) (fun i x y hx hy => ?_)
    · simp only [Array.getElem?_map, Option.map_eq_some_iff] at hx hy
      obtain ⟨a, ha, rfl⟩ := hx
      obtain ⟨b, hb, rfl⟩ := hy
      rw [ha] at hb; cases hb
      exact hv a (by rw [ho]; simp only [Op.operands, Array.mem_append]; exact .inl (Array.mem_of_getElem? ha))
    · simp only [Array.getElem?_map, Option.map_eq_some_iff] at hx hy
      obtain ⟨a, ha, rfl⟩ := hx
      obtain ⟨b, hb, rfl⟩ := hy
      rw [ha] at hb; cases hb
      exact hv a (by rw [ho]; simp only [Op.operands, Array.mem_append]; exact .inr (Array.mem_of_getElem? ha))
  · rename_i t x lo hi mx ho
    have hm : ∀ a, (a = x ∨ lo = some a ∨ hi = some a ∨ mx = some a) → VR ρ (ev a) (cev a) := by
      intro a ha
      refine hv a ?_
      rw [ho]
      simp only [Op.operands, Array.mem_append, Option.toArray]
      rcases ha with rfl | rfl | rfl | rfl <;> simp
    obtain ⟨v', h1, h2⟩ := sliceV_sound hH hq (hm x (.inl rfl)) (.of fun a h => hm a (.inr (.inl h))) (.of fun a h => hm a (.inr (.inr (.inl h)))) (.of fun a h => hm a (.inr (.inr (.inr h))))
    exact ⟨v', by simp [execOp, ho, h1], h2⟩
  · rename_i s x f ho
    obtain ⟨v', h1, h2⟩ := fieldAddrV_sound (w := w) hq (hv x (by simp [ho, Op.operands]))
    exact ⟨v', by simp [execOp, ho, h1], h2⟩
  · rename_i t x f ho
    obtain ⟨v', h1, h2⟩ := fieldV_sound (w := w) hq (hv x (by simp [ho, Op.operands]))
    exact ⟨v', by simp [execOp, ho, h1], h2⟩
  · rename_i t x i ho
    obtain ⟨v', h1, h2⟩ := indexAddrV_sound (w := w) hq (hv x (by simp [ho, Op.operands])) (hv i (by simp [ho, Op.operands]))
    exact ⟨v', by simp [execOp, ho, h1], h2⟩
  · rename_i t x i ho
    obtain ⟨v', h1, h2⟩ := indexV_sound (w := w) hq (hv x (by simp [ho, Op.operands])) (hv i (by simp [ho, Op.operands]))
    exact ⟨v', by simp [execOp, ho, h1], h2⟩
  · rename_i t i ho
    have hc := hv t (by simp [ho, Op.operands])
    split at hq
    · rename_i vs hct
      rw [hct] at hc
      obtain ⟨vs', hcc, hl⟩ := hc.tuple_inv
      obtain ⟨v', h1, h2⟩ := hl.get (by simpa using hq)
      refine ⟨v', ?_, h2⟩
      have : vs'[i]? = some v' := by simpa using h1
      simp [execOp, ho, hcc, Instr.extract, this]
    · cases hq
  · rename_i t parts ho
    obtain ⟨v', h1, h2⟩ := buildV_sound (w := w) (ρ := ρ) (ev := ev) (cev := cev) (fun a ha => hv a.2 (by
      rw [ho]
      simp only [Op.operands, List.mem_toArray, List.mem_map]
      exact ⟨a, ha, rfl⟩)) hq
    exact ⟨v', by simp [execOp, ho, h1], h2⟩
  · rename_i args ts ho
    split at hq
    · rename_i x t hargs hts
      have := one_arg hargs
      subst this
      obtain ⟨v', h1, h2⟩ := lenV_sound (w := w) (ty := o.type) hts hq (hv x (by simp [ho, Op.operands, Call.operands]))
      refine ⟨v', ?_, h2⟩
      rw [run_builtin ho]
      simp [builtin, h1]
    · cases hq
  · rename_i args ts ho
    split at hq
    · rename_i a l hargs
      have hl : LR ρ (args.toList.map ev) (args.toList.map cev) := .of_map _ _ _ fun a ha => hv a (by rw [ho]; simpa [Op.operands, Call.operands] using ha)
      rw [hargs] at hl
      obtain ⟨a', l', hl', h3, h4⟩ := hl.cons_inv
      obtain ⟨v', h1, h2⟩ := minInts_sound (P := P) (w := w) l l' hq h3 h4
      refine ⟨v', ?_, h2⟩
      rw [run_builtin ho]
      simp [builtin, Builtin.min_, hl', h1]
    · cases hq
  · rename_i args ts ho
    split at hq
    · rename_i a l hargs
      have hl : LR ρ (args.toList.map ev) (args.toList.map cev) := .of_map _ _ _ fun a ha => hv a (by rw [ho]; simpa [Op.operands, Call.operands] using ha)
      rw [hargs] at hl
      obtain ⟨a', l', hl', h3, h4⟩ := hl.cons_inv
      obtain ⟨v', h1, h2⟩ := maxInts_sound (P := P) (w := w) l l' hq h3 h4
      refine ⟨v', ?_, h2⟩
      rw [run_builtin ho]
      simp [builtin, Builtin.max_, hl', h1]
    · cases hq
  · rename_i args ts ho
    split at hq
    · rename_i x hargs
      have := one_arg hargs
      subst this
      obtain ⟨v', h1, h2⟩ := sliceDataV_sound (P := P) (w := w) (ty := o.type) (ts := ts) hq (hv x (by simp [ho, Op.operands, Call.operands]))
      refine ⟨v', ?_, h2⟩
      rw [run_builtin ho]
      simp [builtin, h1]
    · cases hq
  · cases hq
end
end Go.AX
