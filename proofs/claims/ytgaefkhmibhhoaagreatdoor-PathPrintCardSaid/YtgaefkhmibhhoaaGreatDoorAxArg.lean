/- A part of the proof that rubriclaw22.PathPrint returns true for every path. -/
import Derived.Test.YtgaefkhmibhhoaaGreatDoorAxAcc
set_option linter.unusedSimpArgs false
set_option linter.unusedVariables false
namespace Go.AX
open Go

/-! ### an argument's row, that nobody writes to -/
theorem flat_refl {ρ : Map} {v : Value} (h : Flat v) : VR ρ v v := by
  induction h with
  | bool b => exact .bool b
  | int k n => exact .int k n
  | string s => exact .string s
  | tuple l _ ih =>
    refine .tuple _ _ rfl fun i x y hx hy => ?_
    rw [hx] at hy
    cases hy
    exact ih x (List.mem_of_getElem? (by simpa using hx))
/-- The heap in which one row stands, that nobody writes to. -/
def heap1 (ng : Nat) (L : List Value) (e : TypeId) : Heap := { t := Tr.set (.cells ⟨L, e, 1, ng, true⟩) (ng + 1) .lf ng, next := ng + 1, fams := Tr.set [ng] (ng + 1) .lf ng }
theorem heap1_eq (ng : Nat) (L : List Value) (e : TypeId) : heap1 ng L e = ((⟨.lf, ng, .lf⟩ : Heap).push (.cells ⟨L, e, 1, ng, true⟩)).setMembers ng [ng] := rfl
theorem heap1_get (ng : Nat) (L : List Value) (e : TypeId) (x : Nat) : (heap1 ng L e).get x = if x = ng then some (.cells ⟨L, e, 1, ng, true⟩) else none := by
  rw [heap1_eq]
  simp only [Heap.get_setMembers, Heap.get_push]
  split
  · rfl
  · simp [Heap.get, Tr.get_lf]
theorem heap1_hr {ng : Nat} {L : List Value} {e : TypeId} {W : World} (hng : ng ≤ W.heap.size) {l : Loc} {c : Array Value} {fr : Nat × Nat} (h1 : W.heap[l.b]? = some (.cells c e fr)) (h2 : c.size = l.size) (h3 : l.es = 1) (h4 : l.base + L.length ≤ l.size) (h5 : l.len = L.length)
    (h6 : ∀ (i : Nat) (v : Value), L[i]? = some v → c[l.base + i]? = some v ∧ Flat v) :
    ∃ ρ : Map, ρ ng = some l ∧ HR ng W.heap.size ρ (heap1 ng L e) W := by
  have hlt : l.b < W.heap.size := (Array.getElem?_eq_some_iff.1 h1).1
  refine ⟨fun g => if g < ng then some ⟨g, 0, 0, 0, 0⟩ else if g = ng then some l else none, by simp, ?_⟩
  have hg := heap1_get ng L e
  have hn : (heap1 ng L e).next = ng + 1 := rfl
  exact {
    dom := fun x l2 hx => by
      split at hx
      · cases hx; rw [hn]; simp only; omega
      · split at hx
        · cases hx; rw [hn]; omega
        · cases hx
    cells := fun x b hb => by
      rw [hg] at hb
      split at hb
      · rename_i hx
        subst hx
        cases hb
        refine ⟨l, by simp, ⟨⟨c, fr, h1, h2, (fun h => by cases h), fun i v hv => ?_⟩, h3, by simp [Nat.mod_one], h4, h5⟩, fun h => (by cases h), ?_, by simp⟩
        · obtain ⟨q1, q2⟩ := h6 i v hv
          exact ⟨v, q1, flat_refl q2⟩
        · rw [heap1_eq]; simp [Heap.members_set]
      · cases hb
    iter := fun x s p hb => by
      rw [hg] at hb
      split at hb <;> cases hb
    sepC := fun x y bx bY lx ly hx hy _ _ _ => by
      rw [hg] at hx hy
      split at hx <;> cases hx
      split at hy <;> cases hy
      exact .inl rfl
    sepI := fun x y s p s' p' lx ly hb => by
      rw [hg] at hb
      split at hb <;> cases hb
    glob := fun g hlt => ⟨⟨g, 0, 0, 0, 0⟩, by rw [if_pos hlt], rfl, rfl⟩
    next := by rw [hn]; omega
    room := Nat.le_refl _ }
theorem heap1_wr (ng : Nat) (L : List Value) (e : TypeId) (x : Nat) : ¬ Wr (heap1 ng L e) x := by
  rintro (⟨b, hb, hr⟩ | ⟨s, p, hb⟩)
  · rw [heap1_get] at hb
    split at hb <;> cases hb
    cases hr
  · rw [heap1_get] at hb
    split at hb <;> cases hb

theorem ints_read (ng : Nat) (zs : List Int) (e : TypeId) (n : Nat) (hn : n ≤ zs.length) (c : Nat) : Ints (heap1 ng (zs.map (Value.int .i64)) e) (.slice (some ⟨ng, 0, none⟩) n c) (zs.take n) := by
  refine .inr ⟨ng, 0, c, ?_, ?_⟩
  · rw [List.length_take, Nat.min_eq_left hn]
  · rw [List.length_take, Nat.min_eq_left hn]
    have : (heap1 ng (zs.map (Value.int .i64)) e).blk ng = some ⟨zs.map (Value.int .i64), e, 1, ng, true⟩ := by
      unfold Heap.blk; rw [heap1_get, if_pos rfl]
    simp only [Heap.read, this, dropN_eq, List.drop_zero]
    rw [List.map_take]
    have hk : ∀ (l : List Value) (k : Nat), k ≤ l.length → takeN k l = some (l.take k) := by
      intro l
      induction l with
      | nil => intro k hk; simp at hk; subst hk; rfl
      | cons a l ih =>
        intro k hk
        cases k with
        | zero => rfl
        | succ k => simp only [takeN, List.take_succ_cons]; rw [ih k (by simpa using hk)]; rfl
    exact hk _ n (by simpa using hn)

end Go.AX
