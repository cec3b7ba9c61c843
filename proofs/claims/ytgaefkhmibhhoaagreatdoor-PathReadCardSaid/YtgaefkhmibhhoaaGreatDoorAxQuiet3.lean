/- A part of the proof that rubriclaw22.PathRead returns true for every text. -/
import Derived.Test.YtgaefkhmibhhoaaGreatDoorAxQuiet2
import Derived.Laws.BytesString
import Derived.Laws.BytesArg
set_option linter.unusedSimpArgs false
set_option linter.unusedVariables false
namespace Go.AX
open Go
section
variable {P : Program} {w : World} {NG B : Nat} {ρ : Map} {h : Heap}

theorem unV_sound {op : UnOp} {x x' v : Value} (hv : unV op x = some v) (hx : VR ρ x x') : ∃ v', (Op.unary op x').run P w = .ok v' w ∧ VR ρ v v' := by
  unfold unV at hv
  split at hv
  · cases hx; cases hv; exact ⟨_, rfl, .int _ _⟩
  · cases hx; cases hv; exact ⟨_, rfl, .int _ _⟩
  · cases hx; cases hv; exact ⟨_, rfl, .bool _⟩
  · cases hv

/-! ### slices and addresses -/
/-- An optional operand. -/
def OR (ρ : Map) (o o' : Option Value) : Prop := (o = none ∧ o' = none) ∨ ∃ v v', o = some v ∧ o' = some v' ∧ VR ρ v v'

theorem bound_run {d y n : Nat} {o o' : Option Value} (hn : boundOf d y o = some n) (ho : OR ρ o o') :
    (o = none ∧ o' = none ∧ n = d) ∨ ∃ k i, o' = some (.int k i) ∧ o = some (.int k i) ∧ n ≤ y ∧ ∀ y' c, y ≤ y' → (Instr.sliceBound (.int k i) y' c).run P w = .ok n w := by
  rcases ho with ⟨rfl, rfl⟩ | ⟨v, v', rfl, rfl, hv⟩
  · simp only [boundOf, Option.some.injEq] at hn; exact .inl ⟨rfl, rfl, hn.symm⟩
  · cases v <;> simp only [boundOf, reduceCtorEq] at hn
    cases hv
    split at hn
    · rename_i k i hi
      cases hn
      refine .inr ⟨_, _, rfl, rfl, by omega, fun y' c hy => ?_⟩
      simp only [Instr.sliceBound, asIntOf, Sem.run_bind, Sem.run_pure, Result.andThen_ok, Sem.run_ite]
      rw [if_pos ⟨hi.1, by omega⟩]
    · cases hn

theorem string_extract {s : ByteArray} {l n : Nat} : (⟨(((bl s).drop l).take n).toArray⟩ : ByteArray) = s.extract l (l + n) := by
  have := ByteArray.extract_mk (bl s) l (l + n)
  rw [mk_bl] at this
  rw [this, Nat.add_sub_cancel_left]

theorem sliceV_sound (hH : HR NG B ρ h w) {t : TypeId} {x x' v : Value} {lo hi mx lo' hi' mx' : Option Value} (hv : sliceV P h t x lo hi mx = some v) (hx : VR ρ x x') (h1 : OR ρ lo lo') (h2 : OR ρ hi hi') (h3 : OR ρ mx mx') :
    ∃ v', (Instr.sliceAt t x' lo' hi' mx').run P w = .ok v' w ∧ VR ρ v v' := by
  unfold sliceV at hv
  split at hv
  · rename_i s hu
    cases hx
    split at hv
    · cases hv
    · obtain rfl : mx' = none := by
        rcases h3 with ⟨_, h⟩ | ⟨_, _, h, _⟩
        · exact h
        · cases h
      simp only [Option.bind_eq_bind, Option.bind_eq_some_iff] at hv
      obtain ⟨hN, hh, lN, hl, hv⟩ := hv
      cases hv
      rw [bl_length] at hh
      have hle : hN ≤ s.size := by
        rcases bound_run (P := P) (w := w) hh h2 with ⟨_, _, h⟩ | ⟨_, _, _, _, h, _⟩ <;> omega
      have hle2 : lN ≤ hN := by
        rcases bound_run (P := P) (w := w) hl h1 with ⟨_, _, h⟩ | ⟨_, _, _, _, h, _⟩ <;> omega
      refine ⟨.string (s.extract lN hN), ?_, ?_⟩
      · rw [run_sliceAt_string w t _ _ _ _ hu]
        have : (Instr.sliceBounds false s.size s.size lo' hi' none).run P w = .ok (lN, hN, s.size) w := by
          rcases bound_run (P := P) (w := w) hh h2 with ⟨_, rfl, rfl⟩ | ⟨k, i, rfl, _, _, hr⟩ <;> rcases bound_run (P := P) (w := w) hl h1 with ⟨_, rfl, rfl⟩ | ⟨k2, i2, rfl, _, _, hr2⟩ <;>
            simp [Instr.sliceBounds, *]
        simp [Instr.slice, run_und hu, this]
      · have := string_extract (s := s) (l := lN) (n := hN - lN)
        rw [this, show lN + (hN - lN) = hN from by omega]; exact .string _
  · rename_i e a len cap hu
    simp only [Option.bind_eq_bind, Option.bind_eq_some_iff] at hv
    obtain ⟨mN, hm, hv⟩ := hv
    split at hv
    · cases hv
    · rename_i hmh
      simp only [Option.bind_eq_some_iff] at hv
      obtain ⟨hN, hh, lN, hl, size, hsz, hv⟩ := hv
      have hgen : ∀ (cap' : Nat) (a' : Option Addr), cap ≤ cap' → len ≤ cap' → ∃ m', (mx = none → m' = cap') ∧ (mx ≠ none → m' = mN) ∧ mN ≤ m' ∧ hN ≤ m' ∧ lN ≤ hN ∧ (mx = none → mN = cap) ∧ m' ≤ cap' ∧
          (Instr.slice t (.slice a' len cap') lo' hi' mx').run P w = .ok (.slice (if m' = lN then a' else a'.map (·.add (lN * size))) (hN - lN) (m' - lN)) w := by
        intro cap' a' hcap hlen
        have hb : ∃ m', (mx = none → m' = cap') ∧ (mx ≠ none → m' = mN) ∧ mN ≤ m' ∧ hN ≤ m' ∧ lN ≤ hN ∧ (mx = none → mN = cap) ∧ m' ≤ cap' ∧ (Instr.sliceBounds true len cap' lo' hi' mx').run P w = .ok (lN, hN, m') w := by
          have hl2 : lN ≤ hN := by rcases bound_run (P := P) (w := w) hl h1 with ⟨_, _, h⟩ | ⟨_, _, _, _, h, _⟩ <;> omega
          rcases bound_run (P := P) (w := w) hm h3 with ⟨em, rfl, rfl⟩ | ⟨km, im, rfl, em, hm1, hm2⟩
          · refine ⟨cap', fun _ => rfl, fun h => absurd em h, hcap, ?_, hl2, fun _ => rfl, Nat.le_refl _, ?_⟩
            · rcases bound_run (P := P) (w := w) hh h2 with ⟨_, _, h⟩ | ⟨_, _, _, _, h, _⟩ <;> omega
            · rcases bound_run (P := P) (w := w) hh h2 with ⟨_, rfl, rfl⟩ | ⟨k, i, rfl, _, hk, hr⟩ <;> rcases bound_run (P := P) (w := w) hl h1 with ⟨_, rfl, rfl⟩ | ⟨k2, i2, rfl, _, _, hr2⟩
              · simp [Instr.sliceBounds]
              · have := hr2 hN .sliceB (Nat.le_refl _)
                simp [Instr.sliceBounds, this]
              · have := hr cap' .sliceAcap (by omega)
                simp [Instr.sliceBounds, this]
              · have := hr cap' .sliceAcap (by omega)
                have := hr2 hN .sliceB (Nat.le_refl _)
                simp [Instr.sliceBounds, *]
          · have ehi : hi ≠ none := by rintro rfl; simp [em] at hmh
            refine ⟨mN, fun h => (by rw [em] at h; cases h), fun _ => rfl, Nat.le_refl _, ?_, hl2, fun h => (by rw [em] at h; cases h), by omega, ?_⟩
            · rcases bound_run (P := P) (w := w) hh h2 with ⟨h, _⟩ | ⟨_, _, _, _, h, _⟩
              · exact absurd h ehi
              · exact h
            · rcases bound_run (P := P) (w := w) hh h2 with ⟨h, _⟩ | ⟨k, i, rfl, _, hk, hr⟩
              · exact absurd h ehi
              · have q1 := hm2 cap' .slice3Acap (by omega)
                have q2 := hr mN .slice3B (Nat.le_refl _)
                rcases bound_run (P := P) (w := w) hl h1 with ⟨_, rfl, rfl⟩ | ⟨k2, i2, rfl, _, _, hr2⟩
                · simp [Instr.sliceBounds, q1, q2]
                · have q3 := hr2 hN .slice3C (Nat.le_refl _)
                  simp [Instr.sliceBounds, q1, q2, q3]
        obtain ⟨m', g1, g2, g3, g4, g5, g6, g7, g8⟩ := hb
        exact ⟨m', g1, g2, g3, g4, g5, g6, g7, by simp [Instr.slice, run_und hu, g8, run_size hsz]⟩
      have hE : P.elem t = e := by simp [Program.elem, hu]
      cases hx with
      | nilSlice =>
        cases hv
        obtain ⟨m', g1, g2, g3, g4, g5, g6, g7, g8⟩ := hgen 0 none (Nat.le_refl _) (Nat.le_refl _)
        have e1 : m' = 0 := by omega
        have e2 : mN = 0 := by omega
        have e3 : hN = 0 := by omega
        have e4 : lN = 0 := by omega
        subst e1 e2 e3 e4
        refine ⟨.slice none 0 0, ?_, .nilSlice⟩
        rw [run_sliceAt_slice w t _ _ _ _ (by rw [hE]; exact hu), g8]
        simp
      | slice x o l _ _ cap' a' hl hcap hlen haddr hex =>
        simp only [Option.isSome_none, Bool.false_eq_true, false_or] at hv
        split at hv
        case h_2 => cases hv
        rename_i b hb
        split at hv
        case isTrue => cases hv
        rename_i hes
        simp only [ne_eq, not_or, Decidable.not_not, Nat.not_lt] at hes
        obtain ⟨hes, hmh2⟩ := hes
        cases hv
        have hes : l.es = size := by
          obtain ⟨l0, q1, q2, _⟩ := hH.cells x b (blk_some hb)
          rw [hl] at q1; cases q1
          exact q2.es.trans hes
        obtain ⟨m', g1, g2, g3, g4, g5, g6, g7, g8⟩ := hgen cap' (some a') hcap hlen
        refine ⟨_, by rw [run_sliceAt_slice w t _ _ _ _ (by rw [hE]; exact hu), g8], ?_⟩
        have hgo : ∀ A, (m' - lN ≠ 0 → A = ⟨l.b, l.base + (o + lN * size), none⟩ ∧ l.base + (o + lN * size) + (m' - lN) * l.es ≤ l.size) → VR ρ (.slice (some ⟨x, o + lN * size, none⟩) (hN - lN) (mN - lN)) (.slice (some A) (hN - lN) (m' - lN)) :=
          fun A hA => .slice x _ l _ _ _ A hl (by omega) (by omega) hA (by
            by_cases e : mx = none
            · have e1 := g1 e
              have e6 := g6 e
              rcases hex with h | h
              · left; omega
              · right
                rw [e6, hes, Nat.add_assoc, ← Nat.add_mul, ← h, hes]
                congr 2; omega
            · left; rw [g2 e])
        by_cases em : m' = lN
        · rw [if_pos em]
          exact hgo _ fun h => absurd (by omega) h
        · rw [if_neg em]
          refine hgo _ fun _ => ?_
          obtain ⟨ha, hs⟩ := haddr (by omega)
          subst ha
          refine ⟨by simp only [add_eq, Nat.add_assoc], ?_⟩
          rw [hes] at hs ⊢
          have : lN * size + (m' - lN) * size = m' * size := by rw [← Nat.add_mul]; congr 1; omega
          have : m' * size ≤ cap' * size := Nat.mul_le_mul_right _ g7
          omega
  · cases hv
end
end Go.AX
