/- A part of the proof that rubriclaw22.PathRead returns true for every text. -/
import Derived.Test.YtgaefkhmibhhoaaGreatDoorAxRegion
set_option linter.unusedSimpArgs false
set_option linter.unusedVariables false
namespace Go.AX
open Go

/-! ### what is told by equal answers -/
theorem same0_eq {a b : Value} (h : same0 a b = true) : a = b := by
  unfold same0 at h
  split at h
  · simp only [beq_iff_eq] at h; rw [h]
  · simp only [Bool.and_eq_true, beq_iff_eq] at h; rw [h.1, h.2]
  · rename_i a b
    simp only [beq_iff_eq] at h
    have : a = b := by rw [← mk_bl a, ← mk_bl b, h]
    rw [this]
  · simp only [beq_iff_eq] at h; rw [h]
  · simp only [Bool.and_eq_true, beq_iff_eq] at h
    rw [h.1.1, Nat.eq_of_beq_eq_true h.1.2, Nat.eq_of_beq_eq_true h.2]
  · rfl
  · rfl
  · simp only [beq_iff_eq] at h; rw [h]
  · rename_i f a b g c d
    simp only [Bool.and_eq_true, Array.isEmpty_iff] at h
    obtain ⟨⟨⟨⟨h1, rfl⟩, rfl⟩, rfl⟩, rfl⟩ := h
    rw [Nat.eq_of_beq_eq_true h1]
  · cases h
theorem sameL_eq : ∀ (l m : List Value), sameL l m = true → l = m := by
  intro l
  induction l with
  | nil => intro m h; cases m with
    | nil => rfl
    | cons b m => simp [sameL] at h
  | cons a l ih => intro m h; cases m with
    | nil => simp [sameL] at h
    | cons b m =>
      simp only [sameL, Bool.and_eq_true] at h
      rw [same0_eq h.1, ih m h.2]
theorem sameV_eq {a b : Value} (h : sameV a b = true) : a = b := by
  unfold sameV at h
  split at h
  · rename_i a b
    have := sameL_eq _ _ h
    congr 1
    exact Array.ext' this
  · exact same0_eq h

theorem quiet_blind {P : Program} {o : Oper} (hl : looks o = false) (e : Operand → Value) (h h' : Heap) : quiet P o e h = quiet P o e h' := by
  unfold quiet
  split <;> first | rfl | skip
  · rename_i t a ho; simp [looks, ho] at hl
  · rename_i s d x ho; simp [looks, ho] at hl
  · rename_i t x lo hi mx ho; simp [looks, ho] at hl

/-! ### what a step of the one order does -/
section
variable {P : Program} {k : Caller} {ops : Array Oper} {base : Nat}

structure StepF (P : Program) (k : Caller) (ops : Array Oper) (base i : Nat) (o : Oper) (r r' : Ran) (v : Value) : Prop where
  tm : r'.tm = putT r.tm o.dst v
  how : (wantedT ops o r.tm = false ∧ v = undef ∧ r'.h = r.h ∧ r'.pend = r.pend ∧ r'.effs = r.effs ∧ r'.seen = r.seen) ∨
    (wantedT ops o r.tm = true ∧ isQuiet P o = true ∧ quiet P o (ev r.tm) r.h = some v ∧ r'.h = r.h ∧ r'.pend = r.pend ∧ r'.effs = r.effs ∧ r'.seen = (if looks o then ⟨i, o, r.tm, v⟩ :: r.seen else r.seen)) ∨
    (wantedT ops o r.tm = true ∧ isQuiet P o = false ∧ isFresh o = true ∧ ∃ n, fresh P o (ev r.tm) = some n ∧ v = n.at (base + i) ∧ r'.h = r.h ∧ r'.pend = (i, n) :: r.pend ∧ r'.effs = r.effs ∧ r'.seen = r.seen) ∨
    (wantedT ops o r.tm = true ∧ isQuiet P o = false ∧ isFresh o = false ∧ effect P k o (ev r.tm) (r.h.layAll base (r.pend.filter fun x => ahead ops ops.size x.1 i)) = some (v, r'.h) ∧
      r'.pend = (r.pend.filter fun x => !ahead ops ops.size x.1 i) ∧ r'.effs = (i, r.h) :: r.effs ∧ r'.seen = r.seen)

theorem stepF_of {i : Nat} {o : Oper} {r r' : Ran} (h : stepIdx P k ops base i o r = some r') : ∃ v, StepF P k ops base i o r r' v := by
  unfold stepIdx at h
  split at h
  · rename_i hw
    split at h
    · rename_i hq
      split at h
      · rename_i v hv
        cases h
        exact ⟨v, rfl, .inr (.inl ⟨hw, hq, hv, rfl, rfl, rfl, rfl⟩)⟩
      · cases h
    · rename_i hq
      simp only [Bool.not_eq_true] at hq
      split at h
      · rename_i hf
        split at h
        · rename_i n hn
          cases h
          exact ⟨_, rfl, .inr (.inr (.inl ⟨hw, hq, hf, n, hn, rfl, rfl, rfl, rfl, rfl⟩))⟩
        · cases h
      · rename_i hf
        simp only [Bool.not_eq_true] at hf
        split at h
        · rename_i v h' he
          cases h
          exact ⟨v, rfl, .inr (.inr (.inr ⟨hw, hq, hf, he, rfl, rfl, rfl⟩))⟩
        · cases h
  · rename_i hw
    simp only [Bool.not_eq_true] at hw
    cases h
    exact ⟨undef, rfl, .inl ⟨hw, rfl, rfl, rfl, rfl, rfl⟩⟩

theorem trace_of : ∀ (l : List Oper) (i : Nat) (r r' : Ran), l = ops.toList.drop i → runIdx P k ops base i l r = some r' →
    ∃ (S : Nat → Ran) (val : Nat → Value), S i = r ∧ S (i + l.length) = r' ∧ ∀ j o, i ≤ j → j < i + l.length → ops[j]? = some o → StepF P k ops base j o (S j) (S (j + 1)) (val j) := by
  intro l
  induction l with
  | nil =>
    intro i r r' _ h
    simp only [runIdx, Option.some.injEq] at h
    subst h
    exact ⟨fun _ => r, fun _ => undef, rfl, rfl, fun j o h1 h2 => by simp at h2; omega⟩
  | cons o l ih =>
    intro i r r' hl h
    have hoi : ops[i]? = some o := by
      have : (ops.toList.drop i)[0]? = some o := by rw [← hl]; rfl
      rw [List.getElem?_drop] at this
      simpa using this
    have hl' : l = ops.toList.drop (i + 1) := by rw [← List.drop_drop, ← hl]; rfl
    unfold runIdx at h
    split at h
    · rename_i r1 h1
      obtain ⟨v, hv⟩ := stepF_of h1
      obtain ⟨S, val, g1, g2, g3⟩ := ih (i + 1) r1 r' hl' h
      refine ⟨fun j => if j = i then r else S j, fun j => if j = i then v else val j, by simp, ?_, fun j o' hj1 hj2 ho => ?_⟩
      · simp only [List.length_cons]
        rw [if_neg (by omega), ← g2]
        congr 1; omega
      · simp only [List.length_cons] at hj2
        by_cases e : j = i
        · subst e
          rw [hoi] at ho; cases ho
          simp only [if_true]
          rw [if_neg (by omega), g1]
          exact hv
        · simp only [if_neg e]
          rw [if_neg (by omega)]
          exact g3 j o' (by omega) (by omega) ho
    · cases h

/-! ### who must come ahead of whom -/
theorem mem_edges {o : Oper} {e : Nat} : e ∈ edgesOf o ↔ ∃ d ∈ o.after, Region.binds .any d = true ∧ d.on = e := by
  simp only [edgesOf, List.mem_map, List.mem_filter, Array.mem_toList_iff]
  constructor
  · rintro ⟨d, ⟨h1, h2⟩, h3⟩; exact ⟨d, h1, h2, h3⟩
  · rintro ⟨d, h1, h2, h3⟩; exact ⟨d, ⟨h1, h2⟩, h3⟩

theorem ahead_closed {D : Nat → Bool} (hD : ∀ j o, ops[j]? = some o → D j = true → ∀ e ∈ edgesOf o, D e = true) : ∀ (f i j : Nat), ahead ops f i j = true → D j = true → D i = true := by
  intro f
  induction f with
  | zero => intro i j h; simp [ahead] at h
  | succ f ih =>
    intro i j h hj
    unfold ahead at h
    split at h
    · cases h
    · rename_i o ho
      obtain ⟨e, he1, he2⟩ := List.any_eq_true.1 h
      have hDe := hD j o ho hj e he1
      simp only [Bool.or_eq_true] at he2
      rcases he2 with he2 | he2
      · rw [← Nat.eq_of_beq_eq_true he2]; exact hDe
      · exact ih i e he2 hDe
theorem ahead_lt (hE : ∀ j o, ops[j]? = some o → ∀ e ∈ edgesOf o, e < j) : ∀ (f i j : Nat), ahead ops f i j = true → i < j := by
  intro f
  induction f with
  | zero => intro i j h; simp [ahead] at h
  | succ f ih =>
    intro i j h
    unfold ahead at h
    split at h
    · cases h
    · rename_i o ho
      obtain ⟨e, he1, he2⟩ := List.any_eq_true.1 h
      have := hE j o ho e he1
      simp only [Bool.or_eq_true] at he2
      rcases he2 with he2 | he2
      · rw [← Nat.eq_of_beq_eq_true he2]; exact this
      · have := ih i e he2; omega

theorem okBehind_at {j : Nat} {oj : Oper} : ∀ (l : List Oper) (i : Nat), okBehind P ops j oj i l = true → l = ops.toList.drop i → ∀ t ot, i ≤ t → t < j → ops[t]? = some ot → okPair P ops t ot j oj = true := by
  intro l
  induction l with
  | nil =>
    intro i _ hl t ot h1 h2 ho
    have : ops.size ≤ i := by have := congrArg List.length hl; simp at this; omega
    have := (Array.getElem?_eq_some_iff.1 ho).1
    omega
  | cons o l ih =>
    intro i h hl t ot h1 h2 ho
    unfold okBehind at h
    rw [if_pos (by omega)] at h
    simp only [Bool.and_eq_true] at h
    have hoi : ops[i]? = some o := by
      have : (ops.toList.drop i)[0]? = some o := by rw [← hl]; rfl
      rw [List.getElem?_drop] at this
      simpa using this
    by_cases e : t = i
    · subst e
      rw [hoi] at ho; cases ho
      exact h.1
    · exact ih (i + 1) h.2 (by rw [← List.drop_drop, ← hl]; rfl) t ot (by omega) h2 ho
theorem okAll_at : ∀ (l : List Oper) (j : Nat), okAll P ops j l = true → l = ops.toList.drop j → ∀ t ot, j ≤ t → ops[t]? = some ot →
    (∀ e ∈ edgesOf ot, e < t) ∧ ∀ i oi, i < t → ops[i]? = some oi → okPair P ops i oi t ot = true := by
  intro l
  induction l with
  | nil =>
    intro j _ hl t ot h1 ho
    have : ops.size ≤ j := by have := congrArg List.length hl; simp at this; omega
    have := (Array.getElem?_eq_some_iff.1 ho).1
    omega
  | cons o l ih =>
    intro j h hl t ot h1 ho
    unfold okAll at h
    simp only [Bool.and_eq_true] at h
    have hoi : ops[j]? = some o := by
      have : (ops.toList.drop j)[0]? = some o := by rw [← hl]; rfl
      rw [List.getElem?_drop] at this
      simpa using this
    by_cases e : t = j
    · subst e
      rw [hoi] at ho; cases ho
      refine ⟨fun e he => ?_, fun i oi hi hoi' => okBehind_at ops.toList 0 h.1.2 (by simp) i oi (by omega) hi hoi'⟩
      exact Nat.le_of_ble_eq_true (List.all_eq_true.1 h.1.1 e he)
    · exact ih (j + 1) h.2 (by rw [← List.drop_drop, ← hl]; rfl) t ot (by omega) ho

/-! ### the last writer of a temporary, and the last effect -/
/-- The greatest number below 'm' of which 'p' holds. -/
def lastOf (p : Nat → Bool) : Nat → Option Nat
  | 0 => none
  | m + 1 => if p m then some m else lastOf p m
theorem lastOf_some {p : Nat → Bool} : ∀ {m j : Nat}, lastOf p m = some j → j < m ∧ p j = true ∧ ∀ t, j < t → t < m → p t = false := by
  intro m
  induction m with
  | zero => intro j h; cases h
  | succ m ih =>
    intro j h
    unfold lastOf at h
    split at h
    · rename_i hp
      cases h
      exact ⟨by omega, hp, fun t h1 h2 => by omega⟩
    · rename_i hp
      obtain ⟨h1, h2, h3⟩ := ih h
      refine ⟨by omega, h2, fun t h4 h5 => ?_⟩
      by_cases e : t = m
      · subst e; simpa using hp
      · exact h3 t h4 (by omega)
theorem lastOf_none {p : Nat → Bool} : ∀ {m : Nat}, lastOf p m = none → ∀ t, t < m → p t = false := by
  intro m
  induction m with
  | zero => intro _ t ht; omega
  | succ m ih =>
    intro h t ht
    unfold lastOf at h
    split at h
    · cases h
    · rename_i hp
      by_cases e : t = m
      · subst e; simpa using hp
      · exact ih h t (by omega)
theorem lastOf_eq {p q : Nat → Bool} {m n : Nat} (h : ∀ t, (t < m ∧ p t = true) ↔ (t < n ∧ q t = true)) : lastOf p m = lastOf q n := by
  cases h1 : lastOf p m with
  | none =>
    cases h2 : lastOf q n with
    | none => rfl
    | some j =>
      obtain ⟨g1, g2, _⟩ := lastOf_some h2
      have := (h j).2 ⟨g1, g2⟩
      rw [lastOf_none h1 j this.1] at this
      cases this.2
  | some i =>
    obtain ⟨f1, f2, f3⟩ := lastOf_some h1
    have hi := (h i).1 ⟨f1, f2⟩
    cases h2 : lastOf q n with
    | none => rw [lastOf_none h2 i hi.1] at hi; cases hi.2
    | some j =>
      obtain ⟨g1, g2, g3⟩ := lastOf_some h2
      have hj := (h j).2 ⟨g1, g2⟩
      rcases Nat.lt_trichotomy i j with e | e | e
      · rw [f3 j e hj.1] at hj; cases hj.2
      · rw [e]
      · rw [g3 i e hi.1] at hi; cases hi.2
theorem lastOf_is {p : Nat → Bool} {m j : Nat} (h1 : j < m) (h2 : p j = true) (h3 : ∀ t, j < t → t < m → p t = false) : lastOf p m = some j := by
  cases h : lastOf p m with
  | none => rw [lastOf_none h j h1] at h2; cases h2
  | some i =>
    obtain ⟨f1, f2, f3⟩ := lastOf_some h
    rcases Nat.lt_trichotomy i j with e | e | e
    · rw [f3 j e h1] at h2; cases h2
    · rw [e]
    · rw [h3 i e f1] at f2; cases f2
end
end Go.AX
