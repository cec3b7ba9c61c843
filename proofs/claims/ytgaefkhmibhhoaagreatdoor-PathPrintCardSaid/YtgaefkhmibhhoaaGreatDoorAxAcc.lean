/- A part of the proof that rubriclaw22.PathPrint returns true for every path. -/
import Derived.Test.YtgaefkhmibhhoaaGreatDoorAxSimp
set_option linter.unusedSimpArgs false
set_option linter.unusedVariables false
namespace Go.AX
open Go

/-! ### a row that grows by one and one -/
theorem get_of_blk {h : Heap} {x : Nat} {b : Blk} (hb : h.blk x = some b) : h.get x = some (.cells b) := by
  unfold Heap.blk at hb
  split at hb
  · rename_i b' e; cases hb; exact e
  · cases hb
theorem blk_of_get {h : Heap} {x : Nat} {b : Blk} (hb : h.get x = some (.cells b)) : h.blk x = some b := by
  unfold Heap.blk; rw [hb]
theorem Keeps.blk {h h' : Heap} (hk : Keeps h h') {x : Nat} {b : Blk} (hb : h.blk x = some b) : h'.blk x = some b :=
  blk_of_get (hk x _ (get_of_blk hb) (by simp))
theorem Keeps.read {h h' : Heap} (hk : Keeps h h') {x o n : Nat} {l : List Value} (hr : h.read x o n = some l) : h'.read x o n = some l := by
  unfold Heap.read at hr ⊢
  split at hr
  · rename_i b hb
    rw [hk.blk hb]; exact hr
  · cases hr
theorem Ints.keeps {h h' : Heap} (hk : Keeps h h') {v : Value} {A : List Int} (ha : Ints h v A) : Ints h' v A := by
  rcases ha with h1 | ⟨x, o, c, h1, h2⟩
  · exact .inl h1
  · exact .inr ⟨x, o, c, h1, hk.read h2⟩

structure Acc (e : TypeId) (h0 h : Heap) (v : Value) (L : List Value) : Prop where
  keeps : Keeps h0 h
  free0 : Free h0
  free : Free h
  next : h0.next ≤ h.next
  row : (v = .slice none 0 0 ∧ L = []) ∨ ∃ x fam, v = .slice (some ⟨x, 0, none⟩) L.length L.length ∧ L ≠ [] ∧ h.blk x = some ⟨L, e, 1, fam, false⟩ ∧ h0.next ≤ fam ∧ (∀ y, y ∈ h.members fam → h0.next ≤ y ∧ y < h.next) ∧ fam < h.next ∧ h0.next ≤ x ∧ x < h.next

theorem Acc.start {e : TypeId} {h : Heap} (hf : Free h) : Acc e h h (.slice none 0 0) [] := ⟨.refl _, hf, hf, Nat.le_refl _, .inl ⟨rfl, rfl⟩⟩
/-- One row more, that is no part of it. -/
theorem Acc.other {e : TypeId} {h0 h : Heap} {v : Value} {L : List Value} (ha : Acc e h0 h v L) (c : List Value) (e' : TypeId) (s : Nat) : Acc e h0 (h.row c e' s).2 v L := by
  refine ⟨ha.keeps.trans (Keeps.row ha.free _ _ _), ha.free0, ha.free.row _ _ _, by rw [next_row]; exact Nat.le_succ_of_le ha.next, ?_⟩
  rcases ha.row with h1 | ⟨x, fam, h1, h2, h3, h4, h5, h6, h7, h8⟩
  · exact .inl h1
  · refine .inr ⟨x, fam, h1, h2, ?_, h4, fun y hy => ?_, by rw [next_row]; omega, h7, by rw [next_row]; omega⟩
    · exact (Keeps.row ha.free c e' s).blk h3
    · have hne : fam ≠ h.next := by omega
      simp only [Heap.row, Heap.members_set, Heap.members_push, if_neg hne] at hy
      have := h5 y hy
      rw [next_row]; omega
/-- All that is forgotten of it: the numbers alone are kept back. -/
theorem Acc.bump {e : TypeId} {h0 h : Heap} {v : Value} {L : List Value} (ha : Acc e h0 h v L) (k : Nat) : Acc e h0 (AX.bump h k) v L := by
  refine ⟨ha.keeps, ha.free0, ha.free.bump k, Nat.le_trans ha.next (Nat.le_add_right _ _), ?_⟩
  rcases ha.row with h1 | ⟨x, fam, h1, h2, h3, h4, h5, h6, h7, h8⟩
  · exact .inl h1
  · exact .inr ⟨x, fam, h1, h2, h3, h4, fun y hy => ⟨(h5 y hy).1, Nat.lt_of_lt_of_le (h5 y hy).2 (Nat.le_add_right _ _)⟩, Nat.lt_of_lt_of_le h6 (Nat.le_add_right _ _), h7, Nat.lt_of_lt_of_le h8 (Nat.le_add_right _ _)⟩

section
variable {P : Program}
theorem Acc.append {sT e : TypeId} {i : TypeInfo} {z : Value} (hu : P.underlying sT = some (.slice e)) (hi : P.info? e = some i) (hsz : i.size = 1) (hby : i.bytes ≠ 0 ∧ i.bytes ≤ 1000) (hz : zeroOf P e = some z) (hzc : z.cells.size = 1)
    {h0 h : Heap} {v : Value} {L : List Value} (ha : Acc e h0 h v L) (hL : L.length ≤ 1000) {q : Nat} {u : Value} (hq : h.read q 0 1 = some [u]) (h1c : oneCell u = true) :
    ∃ v' h', appendV P #[sT, sT] [v, .slice (some ⟨q, 0, none⟩) 1 1] h = some (v', h') ∧ Acc e h0 h' v' (L ++ [u]) := by
  have hsm : ∀ k, k ≤ 1001 → small k i.size i.bytes = true := by
    intro k hk
    unfold small
    refine Nat.ble_eq_true_of_le ?_
    rw [hsz]
    refine Nat.le_trans (Nat.mul_le_mul (show 2 * k + 8 ≤ 2010 by omega) (show i.bytes + 1 + 1 ≤ 1002 by omega)) (by decide)
  have h220 : ¬ (2 ^ 20 < i.bytes) := by omega
  rcases ha.row with ⟨rfl, rfl⟩ | ⟨x, fam, rfl, hne, hb, hf, hmem, hfl, hx0, hx1⟩
  · refine ⟨.slice (some ⟨h.next, 0, none⟩) 1 1, (h.row [u] e 1).2, ?_, ?_, ha.free0, ?_, ?_, ?_⟩
    · have hs := hsm 1 (by omega)
      rw [hsz] at hs
      simp [appendV, hu, appendable, hi, AX.lenOf, firstOf, hsz, hq, hz, hzc, h1c, hby.1, hs, h220]
      rfl
    · exact ha.keeps.trans (Keeps.row ha.free _ _ _)
    · exact ha.free.row _ _ _
    · rw [next_row]; exact Nat.le_succ_of_le ha.next
    · refine .inr ⟨h.next, h.next, rfl, by simp, blk_row _ _ _ _, ha.next, fun y hy => ?_, by rw [next_row]; omega, ha.next, by rw [next_row]; omega⟩
      simp only [Heap.row, Heap.members_set, if_true, List.mem_singleton] at hy
      subst hy
      rw [next_row]
      exact ⟨ha.next, by omega⟩
  · have hgrow : h.grow x 0 (L.length * 1) [u] = some ((h.only fam x).next, ((h.only fam x).push (.cells ⟨L ++ [u], e, 1, fam, false⟩)).setMembers fam [x, (h.only fam x).next]) := by
      unfold Heap.grow
      rw [hb]
      have ht : takeN (L.length * 1) (dropN 0 L) = some L := by
        have : ∀ l : List Value, takeN l.length l = some l := by
          intro l
          induction l with
          | nil => rfl
          | cons a l ih => simp [takeN, ih]
        rw [Nat.mul_one, dropN_eq, List.drop_zero, this]
      have hbq : Nat.beq (0 + L.length * 1) L.length = true := by simp
      simp only [ht, hbq]
      simp
    refine ⟨.slice (some ⟨(h.only fam x).next, 0, none⟩) (L.length + 1) (L.length + 1), ((h.only fam x).push (.cells ⟨L ++ [u], e, 1, fam, false⟩)).setMembers fam [x, (h.only fam x).next], ?_, ?_, ha.free0, ?_, ?_, ?_⟩
    · have hs := hsm (L.length + 1) (by omega)
      rw [hsz] at hs
      rw [Nat.mul_one] at hgrow
      simp [appendV, hu, appendable, hi, AX.lenOf, firstOf, hsz, hq, hz, hzc, h1c, hby.1, hs, h220, hb, hgrow]
      intro hle; omega
    · intro y o hy ho
      simp only [Heap.get_setMembers, Heap.get_push, Heap.next_only, Heap.get_only]
      have hlt : ¬ (h0.next ≤ y) := fun hle => ho (ha.free0 y o hle hy)
      have := ha.next
      rw [if_neg (by omega), if_neg]
      · exact ha.keeps y o hy ho
      · rintro ⟨h1, _⟩
        exact hlt (hmem y h1).1
    · intro y o hy ho
      simp only [Heap.get_setMembers, Heap.get_push, Heap.next_setMembers, Heap.next_push, Heap.next_only, Heap.get_only] at hy ho
      rw [if_neg (by omega)] at ho
      split at ho
      · cases ho; rfl
      · exact ha.free y o (by omega) ho
    · simp only [Heap.next_setMembers, Heap.next_push, Heap.next_only]
      have := ha.next; omega
    · refine .inr ⟨(h.only fam x).next, fam, by simp, by simp, ?_, hf, fun y hy => ?_, ?_, ?_, ?_⟩
      · refine blk_of_get ?_
        simp only [Heap.get_setMembers, Heap.get_push, if_true]
      · simp only [Heap.members_set, if_true, List.mem_cons, List.mem_nil_iff, or_false] at hy
        simp only [Heap.next_setMembers, Heap.next_push, Heap.next_only] at hy ⊢
        have := ha.next
        rcases hy with rfl | rfl
        · omega
        · omega
      all_goals simp only [Heap.next_setMembers, Heap.next_push, Heap.next_only]
      all_goals have := ha.next
      all_goals omega
end
end Go.AX
