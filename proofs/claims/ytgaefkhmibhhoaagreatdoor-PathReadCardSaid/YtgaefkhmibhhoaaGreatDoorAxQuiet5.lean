/- A part of the proof that rubriclaw22.PathRead returns true for every text. -/
import Derived.Test.YtgaefkhmibhhoaaGreatDoorAxQuiet4
set_option linter.unusedSimpArgs false
set_option linter.unusedVariables false
namespace Go.AX
open Go
section
variable {P : Program} {w : World} {NG B : Nat} {ρ : Map} {h : Heap}

theorem foldl_set : ∀ (l : List Value) (k off : Nat) (A : Array Value), let R := (l.zipIdx k).foldl (fun cs (x : Value × Nat) => cs.setIfInBounds (off + x.2) x.1) A
    R.size = A.size ∧ ∀ i, R[i]? = if off + k ≤ i ∧ i < off + k + l.length ∧ i < A.size then l[i - (off + k)]? else A[i]? := by
  intro l
  induction l with
  | nil => intro k off A; simp; intro i h1 h2; omega
  | cons v l ih =>
    intro k off A
    simp only [List.zipIdx_cons, List.foldl_cons]
    obtain ⟨h1, h2⟩ := ih (k + 1) off (A.setIfInBounds (off + k) v)
    refine ⟨by rw [h1]; simp, fun i => ?_⟩
    rw [h2]
    simp only [Array.size_setIfInBounds, List.length_cons]
    by_cases hi : off + (k + 1) ≤ i ∧ i < off + (k + 1) + l.length ∧ i < A.size
    · rw [if_pos hi, if_pos (by omega)]
      have : i - (off + k) = (i - (off + (k + 1))) + 1 := by omega
      rw [this, List.getElem?_cons_succ]
    · rw [if_neg hi]
      by_cases hk : i = off + k
      · subst hk
        by_cases hs : off + k < A.size
        · rw [if_pos (by omega)]
          simp [hs]
        · rw [if_neg (by omega)]
          simp [hs]
      · rw [if_neg (by omega), Array.getElem?_setIfInBounds_ne (by omega)]

theorem fill_sound {place : Nat → Option (Nat × Nat)} {α : Type} (f g : α → Value) (ix : α → Nat) : ∀ (l : List α) {cells cells' r : List Value} (_ : ∀ a, a ∈ l → VR ρ (f a) (g a)) (_ : LR ρ cells cells')
    (_ : fillL place cells (l.map fun a => (ix a, f a)) = some r), ∃ r', Instr.fill place cells'.toArray (l.map fun a => (ix a, g a)) = some r'.toArray ∧ LR ρ r r' := by
  intro l
  induction l with
  | nil => intro cells cells' r _ hc hr; simp only [List.map_nil, fillL, Option.some.injEq] at hr; subst hr; exact ⟨cells', rfl, hc⟩
  | cons a l ih =>
    intro cells cells' r hv hc hr
    simp only [List.map_cons, fillL] at hr
    split at hr
    · cases hr
    · rename_i off size hp
      split at hr
      · cases hr
      · rename_i hno
        split at hr
        · rename_i cells2 hov
          have hva := (hv a (by simp)).cells
          have hsz : (g a).cells.size = (f a).cells.size := by have := hva.1; simpa using this.symm
          obtain ⟨q1, q2, q3⟩ := over_get _ _ _ _ hov
          obtain ⟨p1, p2⟩ := foldl_set (g a).cells.toList 0 off cells'.toArray
          have hl : (f a).cells.toList.length = size := by simp; omega
          have hl' : (g a).cells.toList.length = size := by simp [hsz]; omega
          have hlen := hc.1
          have hcells2 : LR ρ cells2 (((g a).cells.toList.zipIdx 0).foldl (fun cs (x : Value × Nat) => cs.setIfInBounds (off + x.2) x.1) cells'.toArray).toList := by
            refine ⟨by simp only [Array.length_toList]; rw [p1, q1]; simpa using hlen, fun i x y hx hy => ?_⟩
            rw [q3] at hx
            rw [Array.getElem?_toList, p2] at hy
            simp only [Nat.add_zero, List.size_toArray, hl'] at hy
            rw [hl] at hx
            by_cases hi : off ≤ i ∧ i < off + size
            · rw [if_pos hi] at hx
              rw [if_pos (by omega)] at hy
              exact hva.2 _ x y hx hy
            · rw [if_neg hi] at hx
              rw [if_neg (by omega)] at hy
              exact hc.2 i x y hx (by simpa using hy)
          obtain ⟨r', h1, h2⟩ := ih (fun b hb => hv b (by simp [hb])) hcells2 hr
          refine ⟨r', ?_, h2⟩
          simp only [List.map_cons, Instr.fill, hp]
          rw [if_neg]
          · rw [Array.toArray_toList] at h1
            rw [← h1]
            congr 1
            rw [← Array.foldl_toList, Array.toList_zipIdx]
          · simp only [Bool.or_eq_true, decide_eq_true_eq, List.size_toArray, not_or]
            omega
        · cases hr

theorem buildV_sound {t : TypeId} {v : Value} {parts : Array (Nat × Operand)} {ev cev : Operand → Value} (hp : ∀ a, a ∈ parts.toList → VR ρ (ev a.2) (cev a.2))
    (hv : buildV P t (parts.toList.map fun (i, x) => (i, ev x)) = some v) : ∃ v', (Instr.build t (parts.map fun (i, x) => (i, cev x))).run P w = .ok v' w ∧ VR ρ v v' := by
  unfold buildV at hv
  split at hv
  · rename_i z fs hz hu
    split at hv
    · rename_i places hpl
      simp only [Option.map_eq_some_iff] at hv
      obtain ⟨r, hr, rfl⟩ := hv
      obtain ⟨⟨i, hi, hzz⟩, hcl⟩ := zeroOf_eq hz
      obtain ⟨r', h1, h2⟩ := fill_sound (fun a : Nat × Operand => ev a.2) (fun a => cev a.2) (fun a => a.1) parts.toList (fun a ha => hp a ha) (VR.cells (VR.closed (ρ := ρ) hcl)) hr
      refine ⟨.agg r'.toArray, run_build w t _ _ ?_, h2.agg⟩
      unfold Program.built
      unfold placesOf at hpl
      simp only [hi, hu, hzz, hpl]
      simpa using h1
    · cases hv
  · rename_i z n e hz hu
    split at hv
    · rename_i n hn
      simp only [Option.map_eq_some_iff] at hv
      obtain ⟨r, hr, rfl⟩ := hv
      obtain ⟨⟨i, hi, hzz⟩, hcl⟩ := zeroOf_eq hz
      obtain ⟨r', h1, h2⟩ := fill_sound (fun a : Nat × Operand => ev a.2) (fun a => cev a.2) (fun a => a.1) parts.toList (fun a ha => hp a ha) (VR.cells (VR.closed (ρ := ρ) hcl)) hr
      refine ⟨.agg r'.toArray, run_build w t _ _ ?_, h2.agg⟩
      unfold Program.built
      simp only [AX.sizeOf, Option.map_eq_some_iff] at hn
      obtain ⟨ie, hie, rfl⟩ := hn
      simp only [hi, hu, hzz, hie]
      simpa using h1
    · cases hv
  · cases hv
end
end Go.AX
