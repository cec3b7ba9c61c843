/- A part of the proof that rubriclaw22.PathRead returns true for every text. -/
import Derived.Test.YtgaefkhmibhhoaaGreatDoorAxQuiet3
set_option linter.unusedSimpArgs false
set_option linter.unusedVariables false
namespace Go.AX
open Go
section
variable {P : Program} {w : World} {NG B : Nat} {ρ : Map} {h : Heap}

theorem fieldAddrV_sound {s : TypeId} {x x' v : Value} {i : Nat} (hv : fieldAddrV P s x i = some v) (hx : VR ρ x x') : ∃ v', (Instr.fieldAt s x' i).run P w = .ok v' w ∧ VR ρ v v' := by
  unfold fieldAddrV at hv
  split at hv
  · rename_i fs a hu
    split at hv
    · rename_i f hf hs
      split at hv
      · cases hv
      · rename_i n hn hsz
        cases hv
        cases hx with
        | ptr x o l hl =>
          refine ⟨_, ?_, .ptr x (o + f.offset) l hl⟩
          have : n ≠ 0 := fun e => hn (by rw [e])
          simp [Instr.fieldAt, run_und hu, hf, Instr.sureAddr, fieldPlace, run_size hsz, this, add_eq, Nat.add_assoc]
      · cases hv
    · cases hv
  · cases hv

theorem indexAddrV_sound {t : TypeId} {x i x' i' v : Value} (hv : indexAddrV P t x i = some v) (hx : VR ρ x x') (hi : VR ρ i i') : ∃ v', (Instr.indexAt t x' i').run P w = .ok v' w ∧ VR ρ v v' := by
  unfold indexAddrV at hv
  split at hv
  · rename_i e a len cap k i hu
    cases hi
    split at hv
    · rename_i hc
      simp only [Option.map_eq_some_iff] at hv
      obtain ⟨n, hn, rfl⟩ := hv
      cases hx with
      | slice x o l _ _ cap' a' hl hcap hlen haddr _ =>
        obtain ⟨ha, hs⟩ := haddr (by omega)
        subst ha
        refine ⟨_, ?_, .ptr x (o + i.toNat * n) l hl⟩
        simp only [Instr.indexAt, asIntOf, Sem.run_bind, Sem.run_pure, Result.andThen_ok, run_und hu]
        simp [hc.2.1, hc.2.2, run_size hn, add_eq, Nat.add_assoc]
    · cases hv
  · rename_i len e a k i hu
    cases hi
    split at hv
    · rename_i hc
      simp only [Option.map_eq_some_iff] at hv
      obtain ⟨n, hn, rfl⟩ := hv
      cases hx with
      | ptr x o l hl =>
        refine ⟨_, ?_, .ptr x (o + i.toNat * n) l hl⟩
        simp only [Instr.indexAt, asIntOf, Sem.run_bind, Sem.run_pure, Result.andThen_ok, run_und hu, Instr.sureAddr]
        simp [hc.2.1, hc.2.2, run_size hn, add_eq, Nat.add_assoc]
    · cases hv
  · cases hv

theorem indexV_sound {t : TypeId} {x i x' i' v : Value} (hv : indexV P t x i = some v) (hx : VR ρ x x') (hi : VR ρ i i') : ∃ v', (Instr.index t x' i').run P w = .ok v' w ∧ VR ρ v v' := by
  unfold indexV at hv
  split at hv
  · rename_i s k i hu
    cases hi; cases hx
    split at hv
    · rename_i h0
      simp only [Option.map_eq_some_iff] at hv
      obtain ⟨b, hb, rfl⟩ := hv
      refine ⟨_, ?_, .int _ _⟩
      have hlt : i.toNat < s.size := by rw [← bl_length]; exact (List.getElem?_eq_some_iff.1 hb).1
      have hb' : s[i.toNat]? = some b := by
        rw [ByteArray.getElem?_lt' _ _ hlt]
        have := (List.getElem?_eq_some_iff.1 hb).2
        rw [← this]; rfl
      simp only [Instr.index, asIntOf, Sem.run_bind, Sem.run_pure, Result.andThen_ok, run_und hu, if_pos h0, hb']
    · cases hv
  · rename_i len e cs k i hu
    cases hi
    obtain ⟨cs', rfl, hcs⟩ := hx.agg_inv
    split at hv
    · rename_i hc
      simp only [Option.bind_eq_some_iff] at hv
      obtain ⟨n, hn, hp⟩ := hv
      obtain ⟨v', h1, h2⟩ := part_sound (w := w) hcs hp
      refine ⟨v', ?_, h2⟩
      simp only [Instr.index, asIntOf, Sem.run_bind, Sem.run_pure, Result.andThen_ok, run_und hu, Sem.run_ite]
      simpa [hc.1, hc.2, run_size hn] using h1
    · cases hv
  · cases hv

theorem fieldV_sound {t : TypeId} {x x' v : Value} {i : Nat} (hv : fieldV P t x i = some v) (hx : VR ρ x x') : ∃ v', (Instr.field t x' i).run P w = .ok v' w ∧ VR ρ v v' := by
  unfold fieldV at hv
  split at hv
  · rename_i fs cs hu
    obtain ⟨cs', rfl, hcs⟩ := hx.agg_inv
    simp only [Option.bind_eq_some_iff] at hv
    obtain ⟨f, hf, hp⟩ := hv
    obtain ⟨v', h1, h2⟩ := part_sound (w := w) hcs hp
    refine ⟨v', ?_, h2⟩
    simpa [Instr.field, run_und hu, hf, asAgg] using h1
  · cases hv

theorem lenV_sound {t : TypeId} {x x' v : Value} {ty : TypeId} {ts : Array TypeId} (ht : ts[0]? = some t) (hv : lenV P t x = some v) (hx : VR ρ x x') : ∃ v', (Builtin.len_ ts ty #[x']).run P w = .ok v' w ∧ VR ρ v v' := by
  unfold lenV at hv
  split at hv
  · rename_i s hu; cases hx; cases hv; refine ⟨_, ?_, .int _ _⟩; simp [Builtin.len_, ht, run_und hu, bl_length, goInt]
  · rename_i e a n c hu
    cases hv
    cases hx with
    | nilSlice => refine ⟨_, ?_, .int _ _⟩; simp [Builtin.len_, ht, run_und hu, goInt]
    | slice => refine ⟨_, ?_, .int _ _⟩; simp [Builtin.len_, ht, run_und hu, goInt]
  · rename_i n e hu
    cases hv
    refine ⟨_, ?_, .int _ _⟩; simp [Builtin.len_, ht, run_und hu, goInt]
  · cases hv

theorem minInts_sound : ∀ (l l' : List Value) {x x' v : Value} (_ : minInts x l = some v) (_ : VR ρ x x') (_ : LR ρ l l'), ∃ v', (l'.foldlM Builtin.min2 x').run P w = .ok v' w ∧ VR ρ v v' := by
  intro l
  induction l with
  | nil =>
    intro l' x x' v hv hx hl
    cases hl.nil_inv
    simp only [minInts, Option.some.injEq] at hv
    subst hv
    exact ⟨x', rfl, hx⟩
  | cons y l ih =>
    intro l' x x' v hv hx hl
    obtain ⟨y', m', rfl, hy, hm⟩ := hl.cons_inv
    unfold minInts at hv
    split at hv
    · rename_i h; cases h
    · rename_i k a k' b l0 h
      cases h
      cases hx; cases hy
      split at hv
      · rename_i hk; subst hk
        obtain ⟨v', h1, h2⟩ := ih m' hv (.int _ _) hm
        refine ⟨v', ?_, h2⟩
        simp only [List.foldlM_cons, Sem.run_bind, Builtin.min2, Sem.run_pure, Result.andThen_ok]
        exact h1
      · cases hv
    · cases hv
theorem maxInts_sound : ∀ (l l' : List Value) {x x' v : Value} (_ : maxInts x l = some v) (_ : VR ρ x x') (_ : LR ρ l l'), ∃ v', (l'.foldlM Builtin.max2 x').run P w = .ok v' w ∧ VR ρ v v' := by
  intro l
  induction l with
  | nil =>
    intro l' x x' v hv hx hl
    cases hl.nil_inv
    simp only [maxInts, Option.some.injEq] at hv
    subst hv
    exact ⟨x', rfl, hx⟩
  | cons y l ih =>
    intro l' x x' v hv hx hl
    obtain ⟨y', m', rfl, hy, hm⟩ := hl.cons_inv
    unfold maxInts at hv
    split at hv
    · rename_i h; cases h
    · rename_i k a k' b l0 h
      cases h
      cases hx; cases hy
      split at hv
      · rename_i hk; subst hk
        obtain ⟨v', h1, h2⟩ := ih m' hv (.int _ _) hm
        refine ⟨v', ?_, h2⟩
        simp only [List.foldlM_cons, Sem.run_bind, Builtin.max2, Sem.run_pure, Result.andThen_ok]
        exact h1
      · cases hv
    · cases hv

theorem nilV_sound {x x' v : Value} {o : Oper} {X : Operand} {cev : Operand → Value} (ho : o.op = .nilCheck X) (hc : cev X = x') (hv : nilV x = some v) (hx : VR ρ x x') : ∃ v', (execOp cev o).run P w = .ok (.value v') w ∧ VR ρ v v' := by
  have e : x = v := by
    unfold nilV at hv
    split at hv
    · cases hv
    · cases hv
    · cases hv
    · cases hv
    · exact Option.some.inj hv
  subst e
  refine ⟨x', ?_, hx⟩
  simp only [execOp, ho, hc]
  cases hx <;> first | (simp [nilV] at hv; done) | rfl | skip
  rename_i fn a b a' b' _ _ _ _
  cases fn <;> first | rfl | (simp [nilV] at hv; done)

theorem sliceDataV_sound {x x' v : Value} {ty : TypeId} {ts : Array TypeId} (hv : sliceDataV x = some v) (hx : VR ρ x x') : ∃ v', (Builtin.unsafeSliceData_ ts ty #[x']).run P w = .ok v' w ∧ VR ρ v v' := by
  unfold sliceDataV at hv
  split at hv
  · cases hv; cases hx; exact ⟨_, rfl, .nilPtr⟩
  · split at hv
    · rename_i a n c hc
      cases hv
      cases hx with
      | slice x o l _ _ cap' a' hl hcap hlen haddr _ =>
        obtain ⟨ha, _⟩ := haddr (by omega)
        subst ha
        refine ⟨_, ?_, .ptr x o l hl⟩
        have e : Builtin.unsafeSliceData_ ts ty #[.slice (some ⟨l.b, l.base + o, none⟩) n cap'] = (if cap' ≠ 0 then pure (.pointer (some ⟨l.b, l.base + o, none⟩)) else (do if (← viewAt l.b).isSome then pure (.pointer (some ⟨l.b, l.base + o, none⟩)) else pure (.pointer (some ⟨← newObj (.view ⟨l.b, l.base + o, none⟩ (← elemOf ty)), 0, none⟩)))) := rfl
        have : cap' ≠ 0 := by omega
        rw [e, if_pos this]
        rfl
    · cases hv
  · cases hv
end
end Go.AX
