/- A part of the proof that rubriclaw22.PathPrint returns true for every path. -/
import Derived.Test.YtgaefkhmibhhoaaGreatDoorN4
set_option linter.unusedSimpArgs false
set_option linter.unusedVariables false
namespace Go.AX
open Go Go.Proofs

theorem dec_digits : ∀ (k n : Nat), n < 10 ^ (k + 1) → ∀ b, b ∈ dec n → 48 ≤ b.toNat ∧ b.toNat ≤ 57 := by
  have h1 : ∀ m, m < 10 → 48 ≤ (UInt8.ofNat (48 + m)).toNat ∧ (UInt8.ofNat (48 + m)).toNat ≤ 57 := by
    intro m hm
    have : (UInt8.ofNat (48 + m)).toNat = (48 + m) % 256 := by simp
    rw [this]; omega
  intro k
  induction k with
  | zero =>
    intro n hn b hb
    rw [dec_lt (by omega)] at hb
    simp only [List.mem_singleton] at hb
    subst hb; exact h1 n (by omega)
  | succ k ih =>
    intro n hn b hb
    by_cases h : n < 10
    · rw [dec_lt h] at hb
      simp only [List.mem_singleton] at hb
      subst hb; exact h1 n h
    · rw [dec_ge h] at hb
      simp only [List.mem_append, List.mem_singleton] at hb
      rcases hb with hb | rfl
      · exact ih (n / 10) (by rw [Nat.pow_succ] at hn; omega) b hb
      · exact h1 _ (by omega)
theorem toNat_digit (m : Nat) (hm : m < 10) : (UInt8.ofNat (48 + m)).toNat = 48 + m := by
  have : (UInt8.ofNat (48 + m)).toNat = (48 + m) % 256 := by simp
  rw [this]; omega
theorem scan_dec : ∀ (k n : Nat), n < 10 ^ (k + 1) → scan (dec n) 0 = some n := by
  intro k
  induction k with
  | zero =>
    intro n hn
    rw [dec_lt (by omega)]
    have := toNat_digit n (by omega)
    simp only [scan, this]
    rw [if_pos (by omega)]
    congr 1; omega
  | succ k ih =>
    intro n hn
    by_cases h : n < 10
    · rw [dec_lt h]
      have := toNat_digit n h
      simp only [scan, this]
      rw [if_pos (by omega)]
      congr 1; omega
    · rw [dec_ge h, scan_snoc, ih (n / 10) (by rw [Nat.pow_succ] at hn; omega)]
      have := toNat_digit (n % 10) (by omega)
      simp only [this]
      rw [if_pos (by omega)]
      congr 1; omega
theorem dec_len_ge : ∀ (k n : Nat), 10 ^ k ≤ n → k + 1 ≤ (dec n).length := by
  intro k
  induction k with
  | zero => intro n _; exact dec_pos n
  | succ k ih =>
    intro n hn
    have h10 : ¬ n < 10 := by
      have : 1 ≤ 10 ^ k := Nat.pow_pos (by omega)
      rw [Nat.pow_succ] at hn; omega
    rw [dec_ge h10, List.length_append]
    have := ih (n / 10) (by rw [Nat.pow_succ] at hn; omega)
    simp; omega
theorem dec_ne (n : Nat) : dec n ≠ [] := fun h => by have := dec_pos n; rw [h] at this; simp at this
theorem valOf_dec_lt {n : Nat} (h : n < 10 ^ 9) : valOf (dec n) = some n := by
  have hs := scan_dec 8 n h
  have hl := dec_len 8 n h
  have hc := (dec_scan _ _ n rfl (dec_ne n) hs).1 rfl
  unfold valOf
  rw [if_neg, hs]
  rintro (h | h | h)
  · exact dec_ne n h
  · omega
  · exact hc h
theorem valOf_dec_ge {n : Nat} (h : 10 ^ 9 ≤ n) : valOf (dec n) = none := by
  have := dec_len_ge 9 n h
  unfold valOf
  rw [if_pos (.inr (.inl (by omega)))]

theorem pieces_none {l : List UInt8} (h : (47 : UInt8) ∉ l) : pieces l = [l] := by
  induction l with
  | nil => rfl
  | cons c l ih =>
    simp only [List.mem_cons, not_or] at h
    rw [pieces, if_neg (fun e => h.1 e.symm), ih h.2]
theorem pieces_cut {l r : List UInt8} (h : (47 : UInt8) ∉ l) : pieces (l ++ 47 :: r) = l :: pieces r := by
  induction l with
  | nil => simp [pieces]
  | cons c l ih =>
    simp only [List.mem_cons, not_or] at h
    rw [List.cons_append, pieces, if_neg (fun e => h.1 e.symm), ih h.2]
theorem pieces_join : ∀ (ps : List (List UInt8)), ps ≠ [] → (∀ p, p ∈ ps → (47 : UInt8) ∉ p) → pieces (Lib.join ps [47]) = ps := by
  intro ps
  induction ps with
  | nil => intro h; exact absurd rfl h
  | cons p ps ih =>
    intro _ hp
    rw [Lib.join_cons]
    cases ps with
    | nil => simp [Lib.joinTail, pieces_none (hp p (by simp))]
    | cons q ps =>
      have e : p ++ Lib.joinTail [47] (q :: ps) = p ++ 47 :: Lib.join (q :: ps) [47] := by
        rw [Lib.join_cons]; simp [Lib.joinTail]
      rw [e, pieces_cut (hp p (by simp)), ih (by simp) (fun x hx => hp x (by simp [hx]))]
theorem vals_map_some {A : List Int} (h : ∀ n, n ∈ A → 0 ≤ n ∧ n ≤ 999999999) : vals (A.map fun n => dec n.toNat) = some (A.map Int.toNat) := by
  induction A with
  | nil => rfl
  | cons a A ih =>
    have ha := h a (by simp)
    simp only [List.map_cons, vals]
    rw [valOf_dec_lt (by omega), ih (fun n hn => h n (by simp [hn]))]
    rfl
theorem vals_map_none {A : List Int} (h : ∃ n, n ∈ A ∧ 999999999 < n) : vals (A.map fun n => dec n.toNat) = none := by
  induction A with
  | nil => obtain ⟨n, hn, _⟩ := h; simp at hn
  | cons a A ih =>
    simp only [List.map_cons, vals]
    by_cases hb : 999999999 < a
    · rw [valOf_dec_ge (by omega)]
    · have : vals (A.map fun n => dec n.toNat) = none := by
        obtain ⟨n, hn, hlt⟩ := h
        simp only [List.mem_cons] at hn
        rcases hn with rfl | hn
        · exact absurd hlt hb
        · exact ih ⟨n, hn, hlt⟩
      rw [this]
      cases valOf (dec a.toNat) <;> rfl
theorem no_slash {A : List Int} (hb : ∀ n, n ∈ A → n < 2 ^ 63) : ∀ p, p ∈ A.map (fun n => dec n.toNat) → (47 : UInt8) ∉ p := by
  intro p hp hm
  simp only [List.mem_map] at hp
  obtain ⟨n, hn, rfl⟩ := hp
  have h1 := hb n hn
  have := (dec_digits 18 n.toNat (by omega) 47 hm).1
  exact absurd this (by decide)
theorem printed_dot {A : List Int} (hA : A ≠ []) (hb : ∀ n, n ∈ A → n < 2 ^ 63) : printed A ≠ [46] := by
  intro h
  unfold printed at h
  rw [if_neg hA] at h
  split at h
  · cases A with
    | nil => exact hA rfl
    | cons a A =>
      unfold pathText at h
      rw [List.map_cons, Lib.join_cons] at h
      have hne := dec_ne a.toNat
      cases e : dec a.toNat with
      | nil => exact hne e
      | cons c l =>
        rw [e] at h
        simp only [List.cons_append, List.cons.injEq] at h
        have h1 := hb a (by simp)
        have := dec_digits 18 a.toNat (by omega) c (by rw [e]; simp)
        rw [h.1] at this
        exact absurd this.1 (by decide)
  · cases h
theorem read_printed_neg {A : List Int} (h : ∃ n, n ∈ A ∧ n < 0) : (readOf (printed A)).2 = false := by
  rw [printed_neg h]; decide
theorem read_printed_big {A : List Int} (hb : ∀ n, n ∈ A → n < 2 ^ 63) (h : ∃ n, n ∈ A ∧ 999999999 < n) : (readOf (printed A)).2 = false := by
  have hA : A ≠ [] := by
    rintro rfl
    obtain ⟨n, hn, _⟩ := h; simp at hn
  by_cases hneg : ∃ n, n ∈ A ∧ n < 0
  · exact read_printed_neg hneg
  · have hpos : ∀ n, n ∈ A → 0 ≤ n := fun n hn => Int.not_lt.1 fun hlt => hneg ⟨n, hn, hlt⟩
    unfold readOf
    rw [if_neg (printed_dot hA hb), printed_pos hA hpos]
    unfold pathText
    rw [pieces_join _ (by simpa using hA) (no_slash hb), vals_map_none h]
theorem read_printed {A : List Int} (h : ∀ n, n ∈ A → 0 ≤ n ∧ n ≤ 999999999) : readOf (printed A) = (A, true) := by
  by_cases hA : A = []
  · subst hA; decide
  · have hb : ∀ n, n ∈ A → n < 2 ^ 63 := fun n hn => by have := h n hn; omega
    unfold readOf
    rw [if_neg (printed_dot hA hb), printed_pos hA (fun n hn => (h n hn).1)]
    unfold pathText
    rw [pieces_join _ (by simpa using hA) (no_slash hb), vals_map_some h]
    simp only [List.map_map, Prod.mk.injEq, and_true]
    have : ∀ B : List Int, (∀ n, n ∈ B → 0 ≤ n) → B.map ((fun n : Nat => (n : Int)) ∘ Int.toNat) = B := by
      intro B
      induction B with
      | nil => intro _; rfl
      | cons b B ih =>
        intro hB
        have := hB b (by simp)
        rw [List.map_cons, ih (fun n hn => hB n (by simp [hn]))]
        simp only [Function.comp_apply]
        rw [Int.toNat_of_nonneg this]
    exact this A fun n hn => (h n hn).1
theorem printed_len {A : List Int} (hA : A.length ≤ 8) (hb : ∀ n, n ∈ A → n < 2 ^ 63) : (printed A).length ≤ 160 := by
  unfold printed
  split
  · simp
  · split
    · have := pathText_len A hb; omega
    · simp
end Go.AX
