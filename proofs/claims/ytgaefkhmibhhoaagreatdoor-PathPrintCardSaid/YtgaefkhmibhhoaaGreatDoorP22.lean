/- A part of the proof that rubriclaw22.PathPrint returns true for every path. -/
import Derived.Test.YtgaefkhmibhhoaaGreatDoorN11b
set_option linter.unusedSimpArgs false
set_option linter.unusedVariables false
namespace Go.AX
open Go

theorem scan_ge : ∀ (l : List UInt8) (a n : Nat), scan l a = some n → a ≤ n := by
  intro l
  induction l with
  | nil => intro a n h; simp only [scan, Option.some.injEq] at h; omega
  | cons b l ih =>
    intro a n h
    unfold scan at h
    split at h
    · have := ih _ _ h; omega
    · cases h
theorem scan_zero {b : UInt8} {l : List UInt8} {a : Nat} (h : scan (b :: l) a = some 0) : b = 48 := by
  unfold scan at h
  split at h
  · rename_i hd
    have := scan_ge _ _ _ h
    exact UInt8.toNat_inj.1 (by show b.toNat = 48; omega)
  · cases h
theorem scan_snoc : ∀ (l : List UInt8) (b : UInt8) (a : Nat), scan (l ++ [b]) a = match scan l a with
    | some x => if 48 ≤ b.toNat ∧ b.toNat ≤ 57 then some (10 * x + (b.toNat - 48)) else none
    | none => none := by
  intro l
  induction l with
  | nil =>
    intro b a
    simp only [List.nil_append, scan]
  | cons c l ih =>
    intro b a
    simp only [List.cons_append]
    rw [scan, scan]
    by_cases hd : 48 ≤ c.toNat ∧ c.toNat ≤ 57
    · rw [if_pos hd, if_pos hd]; exact ih b _
    · rw [if_neg hd, if_neg hd]
theorem scan9_eq : ∀ (l : List UInt8) (k a : Nat), k ≤ 9 → scan9 k l a = if k + l.length ≤ 9 then scan l a else none := by
  intro l
  induction l with
  | nil => intro k a hk; rw [if_pos (by simpa using hk)]; rfl
  | cons b l ih =>
    intro k a hk
    rw [scan9, scan]
    by_cases hd : 48 ≤ b.toNat ∧ b.toNat ≤ 57
    · by_cases h8 : k ≤ 8
      · rw [if_pos ⟨hd, h8⟩, if_pos hd, ih _ _ (by omega)]
        simp only [List.length_cons]
        by_cases h : k + 1 + l.length ≤ 9
        · rw [if_pos h, if_pos (by omega)]
        · rw [if_neg h, if_neg (by omega)]
      · rw [if_neg (by omega), if_neg (by simp only [List.length_cons]; omega)]
    · rw [if_neg (by omega), if_neg hd]
      split <;> rfl
theorem digit_of (b : UInt8) (h : 48 ≤ b.toNat ∧ b.toNat ≤ 57) : UInt8.ofNat (48 + (b.toNat - 48)) = b := by
  have : 48 + (b.toNat - 48) = b.toNat := by omega
  rw [this]; simp

theorem dec_scan : ∀ (m : Nat) (w : List UInt8) (n : Nat), w.length = m → w ≠ [] → scan w 0 = some n → (dec n = w ↔ ¬ (1 < w.length ∧ w.head? = some 48)) := by
  intro m
  induction m with
  | zero => intro w n hm hw; exact absurd (List.length_eq_zero_iff.1 hm) hw
  | succ m ih =>
    intro w n hm hw h
    obtain ⟨u, b, rfl⟩ : ∃ u b, w = u ++ [b] := ⟨w.dropLast, w.getLast hw, (List.dropLast_concat_getLast hw).symm⟩
    rw [scan_snoc] at h
    cases hu : scan u 0 with
    | none => rw [hu] at h; cases h
    | some x =>
      rw [hu] at h
      simp only at h
      split at h
      · rename_i hd
        cases h
        have hb := digit_of b hd
        cases u with
        | nil =>
          simp only [scan, Option.some.injEq] at hu
          subst hu
          have hlt : 10 * 0 + (b.toNat - 48) < 10 := by omega
          rw [dec_lt hlt]
          have e : 10 * 0 + (b.toNat - 48) = b.toNat - 48 := by omega
          rw [e, hb]
          simp
        | cons c u =>
          have hlen : (c :: u).length = m := by simp at hm ⊢; omega
          by_cases hx : x = 0
          · subst hx
            have hc := scan_zero hu
            have hlt : 10 * 0 + (b.toNat - 48) < 10 := by omega
            rw [dec_lt hlt]
            subst hc
            constructor
            · intro e; have := congrArg List.length e; simp at this
            · intro e; exact absurd ⟨by simp, by simp⟩ e
          · have hge : ¬ (10 * x + (b.toNat - 48) < 10) := by omega
            rw [dec_ge hge]
            have e1 : (10 * x + (b.toNat - 48)) / 10 = x := by omega
            have e2 : (10 * x + (b.toNat - 48)) % 10 = b.toNat - 48 := by omega
            rw [e1, e2, hb]
            have hih := ih (c :: u) x hlen (by simp) hu
            have happ : dec x ++ [b] = c :: u ++ [b] ↔ dec x = c :: u := List.append_cancel_right_eq _ _ _ |>.to_iff
            rw [happ, hih]
            constructor
            · intro h1 h2
              simp only [List.cons_append, List.head?_cons] at h2
              cases u with
              | nil =>
                simp only [Option.some.injEq] at h2
                have hc : c = 48 := h2.2
                subst hc
                simp [scan] at hu
                omega
              | cons c2 u =>
                exact h1 ⟨by simp, by simpa using h2.2⟩
            · intro h1 h2
              exact h1 ⟨by simp, by simpa using h2.2⟩
      · cases h

theorem valRef_eq (w : List UInt8) : valRef w = valOf w := by
  have e1 : scan9 0 w 0 = if w.length ≤ 9 then scan w 0 else none := by
    have := scan9_eq w 0 0 (by omega)
    simpa using this
  by_cases h9 : w.length ≤ 9
  · have e2 : scan9 0 w 0 = scan w 0 := by rw [e1, if_pos h9]
    have h9' : ¬ 9 < w.length := by omega
    by_cases h0 : w = []
    · subst h0; simp [valRef, valOf, scan9]
    · cases hs : scan w 0 with
      | none => simp [valRef, valOf, e2, hs]
      | some n =>
        have hd := dec_scan w.length w n rfl h0 hs
        by_cases hc : 1 < w.length ∧ w.head? = some 48
        · have hne : dec n ≠ w := fun e => hd.1 e hc
          have lhs : valRef w = none := by simp [valRef, e2, hs, hne]
          have rhs : valOf w = none := by unfold valOf; rw [if_pos (Or.inr (Or.inr hc))]
          rw [lhs, rhs]
        · have he := hd.2 hc
          have lhs : valRef w = some n := by simp [valRef, e2, hs, h0, he]
          have rhs : valOf w = some n := by
            unfold valOf
            rw [if_neg, hs]
            rintro (h | h | h)
            · exact h0 h
            · exact h9' h
            · exact hc h
          rw [lhs, rhs]
  · have lhs : valRef w = none := by simp [valRef, e1, h9]
    have rhs : valOf w = none := by unfold valOf; rw [if_pos (Or.inr (Or.inl (by omega)))]
    rw [lhs, rhs]

theorem pieces_ne : ∀ l, ∃ p ps, pieces l = p :: ps := by
  intro l
  cases l with
  | nil => exact ⟨[], [], rfl⟩
  | cons c l =>
    unfold pieces
    split
    · exact ⟨_, _, rfl⟩
    · split
      · exact ⟨_, _, rfl⟩
      · exact ⟨_, _, rfl⟩
def glue (w : List UInt8) : List (List UInt8) → List (List UInt8)
  | p :: ps => (w ++ p) :: ps
  | [] => []
theorem refGo_eq : ∀ (s w : List UInt8) (l : List Nat), refGo s w l = (vals (glue w (pieces s))).map (l ++ ·) := by
  intro s
  induction s with
  | nil =>
    intro w l
    simp only [refGo, pieces, glue, List.append_nil, vals, valRef_eq]
    cases valOf w <;> simp
  | cons c r ih =>
    intro w l
    obtain ⟨p, ps, hp⟩ := pieces_ne r
    rw [refGo]
    by_cases hc : c = 47
    · rw [if_neg (by simp [hc]), pieces, if_pos hc, valRef_eq, hp]
      have hv : vals (glue w ([] :: p :: ps)) = match valOf w with | some n => (vals (p :: ps)).map (n :: ·) | none => none := by
        simp only [glue, List.append_nil]
        rfl
      rw [hv]
      cases valOf w with
      | none => rfl
      | some n =>
        simp only
        rw [ih, hp]
        have : glue [] (p :: ps) = p :: ps := by simp [glue]
        rw [this]
        cases vals (p :: ps) <;> simp
    · rw [if_pos hc, pieces, if_neg hc, ih, hp]
      simp only [glue, List.append_assoc, List.singleton_append]
theorem readRef_eq (s : List UInt8) : readRef s = readOf s := by
  unfold readRef readOf
  obtain ⟨p, ps, hp⟩ := pieces_ne s
  rw [refGo_eq, hp]
  simp only [glue, List.nil_append]
  cases vals (p :: ps) <;> simp
end Go.AX
