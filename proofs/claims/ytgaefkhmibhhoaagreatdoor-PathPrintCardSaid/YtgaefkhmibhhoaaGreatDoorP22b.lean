/- A part of the proof that rubriclaw22.PathPrint returns true for every path. -/
import Derived.Test.YtgaefkhmibhhoaaGreatDoorK22
import Derived.Lib.SplitLaws
set_option linter.unusedSimpArgs false
set_option linter.unusedVariables false
namespace Go.AX
open Go Go.Proofs

theorem index_cons (b : UInt8) (l : List UInt8) : Lib.index (b :: l) [47] = if b = 47 then 0 else if Lib.index l [47] = -1 then -1 else Lib.index l [47] + 1 := by
  rw [Lib.index]
  by_cases hb : b = 47
  · subst hb; simp [List.isPrefixOf]
  · have : ([47] : List UInt8).isPrefixOf (b :: l) = false := by simp [List.isPrefixOf]; exact fun h => hb h.symm
    rw [this, if_neg (by simp), if_neg hb]
    by_cases h : Lib.index l [47] = -1 <;> simp [h]
theorem splitK_pieces : ∀ (l : List UInt8), Lib.splitK [47] 0 (l.count 47) l = pieces l := by
  intro l
  induction l with
  | nil => rfl
  | cons b l ih =>
    by_cases hb : b = 47
    · subst hb
      have hi := index_cons 47 l
      rw [if_pos rfl] at hi
      rw [List.count_cons_self, Lib.splitK, hi]
      simp only [pieces, if_true, List.length_cons, List.length_nil]
      rw [if_neg (by decide)]
      simp [ih]
    · rw [List.count_cons_of_ne (fun h => hb h)]
      have hi := index_cons b l
      rw [if_neg hb] at hi
      simp only [pieces, if_neg hb]
      rw [← ih]
      cases l.count 47 with
      | zero => rfl
      | succ k =>
        rw [Lib.splitK, Lib.splitK, hi]
        by_cases hm : Lib.index l [47] = -1
        · simp [hm]
        · have hge := Lib.index_ge l [47]
          have e : (Lib.index l [47] + 1).toNat = (Lib.index l [47]).toNat + 1 := by omega
          have hne : ¬ (Lib.index l [47] + 1 = -1) := by omega
          simp [hm, hne, e]
theorem pieces_len : ∀ l, (pieces l).length ≤ l.length + 1 ∧ ∀ p, p ∈ pieces l → p.length ≤ l.length := by
  intro l
  induction l with
  | nil => simp [pieces]
  | cons c l ih =>
    obtain ⟨h1, h2⟩ := ih
    unfold pieces
    split
    · refine ⟨by simp; omega, fun p hp => ?_⟩
      simp only [List.mem_cons] at hp
      rcases hp with rfl | hp
      · simp
      · have := h2 p hp; simp; omega
    · obtain ⟨q, qs, hq⟩ := pieces_ne l
      rw [hq] at h1 h2 ⊢
      refine ⟨by simpa using (by simp at h1; omega : (qs.length + 1 ≤ l.length + 1 + 1)), fun p hp => ?_⟩
      simp only [List.mem_cons] at hp
      rcases hp with rfl | hp
      · have := h2 q (by simp); simp; omega
      · have := h2 p (by simp [hp]); simp; omega
theorem splitB_pieces (s : ByteArray) : (Lib.splitB ⟨#[47]⟩ 0 (Lib.countB s ⟨#[47]⟩) s).map bl = pieces (bl s) := by
  have h1 : (Lib.splitB ⟨#[47]⟩ 0 (Lib.countB s ⟨#[47]⟩) s).map bl = (Lib.splitB ⟨#[47]⟩ 0 (Lib.countB s ⟨#[47]⟩) s).map (·.data.toList) := rfl
  rw [h1, Lib.splitB_data]
  have h2 : Lib.countB s ⟨#[47]⟩ = (bl s).count 47 := Lib.count_one 47 (bl s)
  rw [h2]
  exact splitK_pieces (bl s)
theorem S15_says (h : Heap) (s : ByteArray) (hs : s.size ≤ 1000) : ∃ ps : List ByteArray, ps.map bl = pieces (bl s) ∧ ps ≠ [] ∧ ps.length ≤ s.size + 1 ∧ (∀ p, p ∈ ps → p.size ≤ s.size) ∧ S15 15 [.string s, .string ⟨#[47]⟩] h = some (.slice (some ⟨h.next, 0, none⟩) ps.length ps.length, (h.row (ps.map Value.string) 9 1).2) := by
  have hp := splitB_pieces s
  have hl := pieces_len (bl s)
  refine ⟨Lib.splitB ⟨#[47]⟩ 0 (Lib.countB s ⟨#[47]⟩) s, hp, ?_, ?_, ?_, ?_⟩
  · intro e; have := split_len s; rw [e] at this; simp at this
  · have := congrArg List.length hp
    simp only [List.length_map] at this
    rw [this]; exact hl.1
  · intro p hpm
    have : bl p ∈ pieces (bl s) := by rw [← hp]; exact List.mem_map_of_mem hpm
    exact hl.2 _ this
  · unfold S15
    rw [if_pos rfl]
    simp only [hs, true_and, if_true, split_len]
end Go.AX
