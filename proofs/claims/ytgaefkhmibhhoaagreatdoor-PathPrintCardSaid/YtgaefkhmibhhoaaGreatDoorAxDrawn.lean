/- A part of the proof that rubriclaw22.PathPrint returns true for every path. -/
import Derived.Test.YtgaefkhmibhhoaaGreatDoorAxRegion
set_option linter.unusedSimpArgs false
set_option linter.unusedVariables false
namespace Go.AX
open Go

/-! ### what is told by equal answers -/
theorem same0_eq {a b : Value} (h : same0 a b = true) : a = b := by
  unfold same0 at h
  split at h
  · simp only [beq_iff_eq] at h; rw [h]
  · simp only [Bool.and_eq_true, beq_iff_eq] at h; rw [h.1, h.2]
  · rename_i a b
    simp only [beq_iff_eq] at h
    have : a = b := by rw [← mk_bl a, ← mk_bl b, h]
    rw [this]
  · simp only [beq_iff_eq] at h; rw [h]
  · simp only [Bool.and_eq_true, beq_iff_eq] at h
    rw [h.1.1, Nat.eq_of_beq_eq_true h.1.2, Nat.eq_of_beq_eq_true h.2]
  · rfl
  · rfl
  · simp only [beq_iff_eq] at h; rw [h]
  · rename_i f a b g c d
    simp only [Bool.and_eq_true, Array.isEmpty_iff] at h
    obtain ⟨⟨⟨⟨h1, rfl⟩, rfl⟩, rfl⟩, rfl⟩ := h
    rw [Nat.eq_of_beq_eq_true h1]
  · cases h
theorem sameL_eq : ∀ (l m : List Value), sameL l m = true → l = m := by
  intro l
  induction l with
  | nil => intro m h; cases m with
    | nil => rfl
    | cons b m => simp [sameL] at h
  | cons a l ih => intro m h; cases m with
    | nil => simp [sameL] at h
    | cons b m =>
      simp only [sameL, Bool.and_eq_true] at h
      rw [same0_eq h.1, ih m h.2]
theorem sameV_eq {a b : Value} (h : sameV a b = true) : a = b := by
  unfold sameV at h
  split at h
  · rename_i a b
    have := sameL_eq _ _ h
    congr 1
    exact Array.ext' this
  · exact same0_eq h

theorem quiet_blind {P : Program} {o : Oper} (hl : looks o = false) (e : Operand → Value) (h h' : Heap) : quiet P o e h = quiet P o e h' := by
  unfold quiet
  split <;> first | rfl | skip
  · rename_i t a ho; simp [looks, ho] at hl
  · rename_i s d x ho; simp [looks, ho] at hl
  · rename_i t x lo hi mx ho; simp [looks, ho] at hl

/-! ### what a step of the one order does -/
section
variable {P : Program} {k : Caller} {ops : Array Oper} {base : Nat}

structure StepF (P : Program) (k : Caller) (ops : Array Oper) (base i : Nat) (o : Oper) (r r' : Ran) (v : Value) : Prop where
  tm : r'.tm = putT r.tm o.dst v
  how : (wantedT ops o r.tm = false ∧ v = undef ∧ r'.h = r.h ∧ r'.pend = r.pend ∧ r'.effs = r.effs ∧ r'.seen = r.seen) ∨
    (wantedT ops o r.tm = true ∧ isQuiet P o = true ∧ quiet P o (ev r.tm) r.h = some v ∧ r'.h = r.h ∧ r'.pend = r.pend ∧ r'.effs = r.effs ∧ r'.seen = (if looks o then ⟨i, o, r.tm, v⟩ :: r.seen else r.seen)) ∨
    (wantedT ops o r.tm = true ∧ isQuiet P o = false ∧ isFresh o = true ∧ ∃ n, fresh P o (ev r.tm) = some n ∧ v = n.at (base + i) ∧ r'.h = r.h ∧ r'.pend = (i, n) :: r.pend ∧ r'.effs = r.effs ∧ r'.seen = r.seen) ∨
    (wantedT ops o r.tm = true ∧ isQuiet P o = false ∧ isFresh o = false ∧ effect P k o (ev r.tm) (r.h.layAll base (r.pend.filter fun x => ahead ops ops.size x.1 i)) = some (v, r'.h) ∧
      r'.pend = (r.pend.filter fun x => !ahead ops ops.size x.1 i) ∧ r'.effs = (i, r.h) :: r.effs ∧ r'.seen = r.seen)

theorem stepF_of {i : Nat} {o : Oper} {r r' : Ran} (h : stepIdx P k ops base i o r = some r') : ∃ v, StepF P k ops base i o r r' v := by
  unfold stepIdx at h
  split at h
  · rename_i hw
    split at h
    · rename_i hq
      split at h
      · rename_i v hv
        cases h
        exact ⟨v, rfl, .inr (.inl ⟨hw, hq, hv, rfl, rfl, rfl, rfl⟩)⟩
      · cases h
    · rename_i hq
      simp only [Bool.not_eq_true] at hq
      split at h
      · rename_i hf
        split at h
        · rename_i n hn
          cases h
          exact ⟨_, rfl, .inr (.inr (.inl ⟨hw, hq, hf, n, hn, rfl, rfl, rfl, rfl, rfl⟩))⟩
        · cases h
      · rename_i hf
        simp only [Bool.not_eq_true] at hf
        split at h
        · rename_i v h' he
          cases h
          exact ⟨v, rfl, .inr (.inr (.inr ⟨hw, hq, hf, he, rfl, rfl, rfl⟩))⟩
        · cases h
  · rename_i hw
    simp only [Bool.not_eq_true] at hw
    cases h
    exact ⟨undef, rfl, .inl ⟨hw, rfl, rfl, rfl, rfl, rfl⟩⟩

theorem trace_of : ∀ (l : List Oper) (i : Nat) (r r' : Ran), l = ops.toList.drop i → runIdx P k ops base i l r = some r' →
    ∃ (S : Nat → Ran) (val : Nat → Value), S i = r ∧ S (i + l.length) = r' ∧ ∀ j o, i ≤ j → j < i + l.length → ops[j]? = some o → StepF P k ops base j o (S j) (S (j + 1)) (val j) := by
  intro l
  induction l with
  | nil =>
    intro i r r' _ h
    simp only [runIdx, Option.some.injEq] at h
    subst h
    exact ⟨fun _ => r, fun _ => undef, rfl, rfl, fun j o h1 h2 => by simp at h2; omega⟩
  | cons o l ih =>
    intro i r r' hl h
    have hoi : ops[i]? = some o := by
      have : (ops.toList.drop i)[0]? = some o := by rw [← hl]; rfl
      rw [List.getElem?_drop] at this
      simpa using this
    have hl' : l = ops.toList.drop (i + 1) := by rw [← List.drop_drop, ← hl]; rfl
    unfold runIdx at h
    split at h
    · rename_i r1 h1
      obtain ⟨v, hv⟩ := stepF_of h1
      obtain ⟨S, val, g1, g2, g3⟩ := ih (i + 1) r1 r' hl' h
      refine ⟨fun j => if j = i then r else S j, fun j => if j = i then v else val j, by simp, ?_, fun j o' hj1 hj2 ho => ?_⟩
      · simp only [List.length_cons]
        rw [if_neg (by omega), ← g2]
        congr 1; omega
      · simp only [List.length_cons] at hj2
        by_cases e : j = i
        · subst e
          rw [hoi] at ho; cases ho
          simp only [if_true]
          rw [if_neg (by omega), g1]
          exact hv
        · simp only [if_neg e]
          rw [if_neg (by omega)]
          exact g3 j o' (by omega) (by omega) ho
    · cases h

/-! ### who must come ahead of whom -/
theorem mem_edges {o : Oper} {e : Nat} : e ∈ edgesOf o ↔ ∃ d ∈ o.after, Region.binds .any d = true ∧ d.on = e := by
  simp only [edgesOf, List.mem_map, List.mem_filter, Array.mem_toList_iff]
  constructor
  · rintro ⟨d, ⟨h1, h2⟩, h3⟩; exact ⟨d, h1, h2, h3⟩
  · rintro ⟨d, h1, h2, h3⟩; exact ⟨d, ⟨h1, h2⟩, h3⟩

theorem ahead_closed {D : Nat → Bool} (hD : ∀ j o, ops[j]? = some o → D j = true → ∀ e ∈ edgesOf o, D e = true) : ∀ (f i j : Nat), ahead ops f i j = true → D j = true → D i = true := by
  intro f
  induction f with
  | zero => intro i j h; simp [ahead] at h
  | succ f ih =>
    intro i j h hj
    unfold ahead at h
    split at h
    · cases h
    · rename_i o ho
      obtain ⟨e, he1, he2⟩ := List.any_eq_true.1 h
      have hDe := hD j o ho hj e he1
      simp only [Bool.or_eq_true] at he2
      rcases he2 with he2 | he2
      · rw [← Nat.eq_of_beq_eq_true he2]; exact hDe
      · exact ih i e he2 hDe
theorem ahead_lt (hE : ∀ j o, ops[j]? = some o → ∀ e ∈ edgesOf o, e < j) : ∀ (f i j : Nat), ahead ops f i j = true → i < j := by
  intro f
  induction f with
  | zero => intro i j h; simp [ahead] at h
  | succ f ih =>
    intro i j h
    unfold ahead at h
    split at h
    · cases h
    · rename_i o ho
      obtain ⟨e, he1, he2⟩ := List.any_eq_true.1 h
      have := hE j o ho e he1
      simp only [Bool.or_eq_true] at he2
      rcases he2 with he2 | he2
      · rw [← Nat.eq_of_beq_eq_true he2]; exact this
      · have := ih i e he2; omega

theorem okBehind_at {j : Nat} {oj : Oper} : ∀ (l : List Oper) (i : Nat), okBehind P ops j oj i l = true → l = ops.toList.drop i → ∀ t ot, i ≤ t → t < j → ops[t]? = some ot → okPair P ops t ot j oj = true := by
  intro l
  induction l with
  | nil =>
    intro i _ hl t ot h1 h2 ho
    have : ops.size ≤ i := by have := congrArg List.length hl; simp at this; omega
    have := (Array.getElem?_eq_some_iff.1 ho).1
    omega
  | cons o l ih =>
    intro i h hl t ot h1 h2 ho
    unfold okBehind at h
    rw [if_pos (by omega)] at h
    simp only [Bool.and_eq_true] at h
    have hoi : ops[i]? = some o := by
      have : (ops.toList.drop i)[0]? = some o := by rw [← hl]; rfl
      rw [List.getElem?_drop] at this
      simpa using this
    by_cases e : t = i
    · subst e
      rw [hoi] at ho; cases ho
      exact h.1
    · exact ih (i + 1) h.2 (by rw [← List.drop_drop, ← hl]; rfl) t ot (by omega) h2 ho
theorem okAll_at : ∀ (l : List Oper) (j : Nat), okAll P ops j l = true → l = ops.toList.drop j → ∀ t ot, j ≤ t → ops[t]? = some ot →
    (∀ e ∈ edgesOf ot, e < t) ∧ ∀ i oi, i < t → ops[i]? = some oi → okPair P ops i oi t ot = true := by
  intro l
  induction l with
  | nil =>
    intro j _ hl t ot h1 ho
    have : ops.size ≤ j := by have := congrArg List.length hl; simp at this; omega
    have := (Array.getElem?_eq_some_iff.1 ho).1
    omega
  | cons o l ih =>
    intro j h hl t ot h1 ho
    unfold okAll at h
    simp only [Bool.and_eq_true] at h
    have hoi : ops[j]? = some o := by
      have : (ops.toList.drop j)[0]? = some o := by rw [← hl]; rfl
      rw [List.getElem?_drop] at this
      simpa using this
    by_cases e : t = j
    · subst e
      rw [hoi] at ho; cases ho
      refine ⟨fun e he => ?_, fun i oi hi hoi' => okBehind_at ops.toList 0 h.1.2 (by simp) i oi (by omega) hi hoi'⟩
      exact Nat.le_of_ble_eq_true (List.all_eq_true.1 h.1.1 e he)
    · exact ih (j + 1) h.2 (by rw [← List.drop_drop, ← hl]; rfl) t ot (by omega) ho

/-! ### the last writer of a temporary, and the last effect -/
/-- The greatest number below 'm' of which 'p' holds. -/
def lastOf (p : Nat → Bool) : Nat → Option Nat
  | 0 => none
  | m + 1 => if p m then some m else lastOf p m
theorem lastOf_some {p : Nat → Bool} : ∀ {m j : Nat}, lastOf p m = some j → j < m ∧ p j = true ∧ ∀ t, j < t → t < m → p t = false := by
  intro m
  induction m with
  | zero => intro j h; cases h
  | succ m ih =>
    intro j h
    unfold lastOf at h
    split at h
    · rename_i hp
      cases h
      exact ⟨by omega, hp, fun t h1 h2 => by omega⟩
    · rename_i hp
      obtain ⟨h1, h2, h3⟩ := ih h
      refine ⟨by omega, h2, fun t h4 h5 => ?_⟩
      by_cases e : t = m
      · subst e; simpa using hp
      · exact h3 t h4 (by omega)
theorem lastOf_none {p : Nat → Bool} : ∀ {m : Nat}, lastOf p m = none → ∀ t, t < m → p t = false := by
  intro m
  induction m with
  | zero => intro _ t ht; omega
  | succ m ih =>
    intro h t ht
    unfold lastOf at h
    split at h
    · cases h
    · rename_i hp
      by_cases e : t = m
      · subst e; simpa using hp
      · exact ih h t (by omega)
theorem lastOf_eq {p q : Nat → Bool} {m n : Nat} (h : ∀ t, (t < m ∧ p t = true) ↔ (t < n ∧ q t = true)) : lastOf p m = lastOf q n := by
  cases h1 : lastOf p m with
  | none =>
    cases h2 : lastOf q n with
    | none => rfl
    | some j =>
      obtain ⟨g1, g2, _⟩ := lastOf_some h2
      have := (h j).2 ⟨g1, g2⟩
      rw [lastOf_none h1 j this.1] at this
      cases this.2
  | some i =>
    obtain ⟨f1, f2, f3⟩ := lastOf_some h1
    have hi := (h i).1 ⟨f1, f2⟩
    cases h2 : lastOf q n with
    | none => rw [lastOf_none h2 i hi.1] at hi; cases hi.2
    | some j =>
      obtain ⟨g1, g2, g3⟩ := lastOf_some h2
      have hj := (h j).2 ⟨g1, g2⟩
      rcases Nat.lt_trichotomy i j with e | e | e
      · rw [f3 j e hj.1] at hj; cases hj.2
      · rw [e]
      · rw [g3 i e hi.1] at hi; cases hi.2
theorem lastOf_is {p : Nat → Bool} {m j : Nat} (h1 : j < m) (h2 : p j = true) (h3 : ∀ t, j < t → t < m → p t = false) : lastOf p m = some j := by
  cases h : lastOf p m with
  | none => rw [lastOf_none h j h1] at h2; cases h2
  | some i =>
    obtain ⟨f1, f2, f3⟩ := lastOf_some h
    rcases Nat.lt_trichotomy i j with e | e | e
    · rw [f3 j e h1] at h2; cases h2
    · rw [e]
    · rw [h3 i e f1] at f2; cases f2
end
end Go.AX

namespace Go.AX
open Go

structure Canon (P : Program) (k : Caller) (ops : Array Oper) (base : Nat) (tm0 : Tm) (S : Nat → Ran) (val : Nat → Value) : Prop where
  tm : (S 0).tm = tm0
  pend : (S 0).pend = []
  effs : (S 0).effs = []
  seen : (S 0).seen = []
  step : ∀ j o, ops[j]? = some o → StepF P k ops base j o (S j) (S (j + 1)) (val j)
  edge : ∀ j o, ops[j]? = some o → ∀ e ∈ edgesOf o, e < j
  pair : ∀ t ot i oi, i < t → ops[t]? = some ot → ops[i]? = some oi → okPair P ops i oi t ot = true

section
variable (P : Program) (ops : Array Oper) (S : Nat → Ran)
def isE (j : Nat) : Bool := (ops[j]?).any fun o => wantedT ops o (S j).tm && !isQuiet P o && !isFresh o
def isF (j : Nat) : Bool := (ops[j]?).any fun o => wantedT ops o (S j).tm && !isQuiet P o && isFresh o
def newOf (j : Nat) : Option New := (ops[j]?).bind fun o => fresh P o (ev (S j).tm)
def dstIs (t j : Nat) : Bool := ((ops[j]?).bind (·.dst)) == some t
abbrev Ah (i j : Nat) : Bool := ahead ops ops.size i j
variable (tm0 : Tm) (val : Nat → Value)
def tmAt (D : Nat → Bool) (t : Nat) : Value := match lastOf (fun j => D j && dstIs ops t j) ops.size with | some j => val j | none => getT tm0 t
def tmD (D : Nat → Bool) : Tm := (List.range tm0.length).map (tmAt ops tm0 val D)
def HD (D : Nat → Bool) : Heap := match lastOf (fun j => D j && isE P ops S j) ops.size with | some e => (S (e + 1)).h | none => (S 0).h
def PendD (D : Nat → Bool) (i : Nat) : Prop := i < ops.size ∧ D i = true ∧ isF P ops S i = true ∧ ∀ e, e < ops.size → D e = true → isE P ops S e = true → Ah ops i e = false
end

section
variable {P : Program} {k : Caller} {ops : Array Oper} {base : Nat} {tm0 : Tm} {S : Nat → Ran} {val : Nat → Value}

theorem size_of {j : Nat} {o : Oper} (h : ops[j]? = some o) : j < ops.size := (Array.getElem?_eq_some_iff.1 h).1
theorem op_at {j : Nat} (h : j < ops.size) : ∃ o, ops[j]? = some o := ⟨ops[j], by simp [h]⟩

theorem Canon.tm_len (C : Canon P k ops base tm0 S val) : ∀ m, m ≤ ops.size → (S m).tm.length = tm0.length := by
  intro m
  induction m with
  | zero => intro _; rw [C.tm]
  | succ m ih =>
    intro hm
    obtain ⟨o, ho⟩ := op_at (show m < ops.size by omega)
    rw [(C.step m o ho).tm]
    cases o.dst with
    | none => exact ih (by omega)
    | some d => simp only [putT, setT_eq, List.length_set]; exact ih (by omega)

theorem Canon.tm_at (C : Canon P k ops base tm0 S val) : ∀ m, m ≤ ops.size → ∀ t, t < tm0.length → getT (S m).tm t = match lastOf (dstIs ops t) m with | some j => val j | none => getT tm0 t := by
  intro m
  induction m with
  | zero => intro _ t _; rw [C.tm]; rfl
  | succ m ih =>
    intro hm t ht
    obtain ⟨o, ho⟩ := op_at (show m < ops.size by omega)
    have hlen := C.tm_len m (by omega)
    rw [(C.step m o ho).tm]
    simp only [lastOf, dstIs, ho, Option.bind_some]
    have ih := ih (by omega) t ht
    cases hd : o.dst with
    | none =>
      simp only [putT]
      rw [if_neg (by simp), ih]
    | some d =>
      simp only [putT, setT_eq, getT_eq]
      by_cases e : d = t
      · subst e
        rw [if_pos (by simp)]
        simp [List.getD_eq_getElem?_getD, hlen, ht]
      · rw [if_neg (by simp [e])]
        rw [getT_eq] at ih
        rw [List.getD_eq_getElem?_getD, List.getElem?_set_ne e, ← List.getD_eq_getElem?_getD, ih]
        simp only [getT_eq]

theorem isE_step (C : Canon P k ops base tm0 S val) {j : Nat} {o : Oper} (ho : ops[j]? = some o) (h : isE P ops S j = true) :
    wantedT ops o (S j).tm = true ∧ isQuiet P o = false ∧ isFresh o = false ∧ effect P k o (ev (S j).tm) ((S j).h.layAll base ((S j).pend.filter fun x => ahead ops ops.size x.1 j)) = some (val j, (S (j + 1)).h) ∧
      (S (j + 1)).pend = ((S j).pend.filter fun x => !ahead ops ops.size x.1 j) ∧ (S (j + 1)).effs = (j, (S j).h) :: (S j).effs := by
  simp only [isE, ho, Option.any_some, Bool.and_eq_true, Bool.not_eq_true'] at h
  obtain ⟨⟨h1, h2⟩, h3⟩ := h
  rcases (C.step j o ho).how with ⟨g1, _⟩ | ⟨_, g2, _⟩ | ⟨_, _, g3, _⟩ | ⟨g1, g2, g3, g4, g5, g6, _⟩
  · rw [h1] at g1; cases g1
  · rw [h2] at g2; cases g2
  · rw [h3] at g3; cases g3
  · exact ⟨g1, g2, g3, g4, g5, g6⟩
theorem notE_step (C : Canon P k ops base tm0 S val) {j : Nat} {o : Oper} (ho : ops[j]? = some o) (h : isE P ops S j = false) : (S (j + 1)).h = (S j).h ∧ (S (j + 1)).effs = (S j).effs := by
  rcases (C.step j o ho).how with ⟨_, _, g3, _, g5, _⟩ | ⟨_, _, _, g3, _, g5, _⟩ | ⟨_, _, _, _, _, _, g3, _, g5, _⟩ | ⟨g1, g2, g3, _⟩
  · exact ⟨g3, g5⟩
  · exact ⟨g3, g5⟩
  · exact ⟨g3, g5⟩
  · simp [isE, ho, g1, g2, g3] at h
theorem isF_step (C : Canon P k ops base tm0 S val) {j : Nat} {o : Oper} (ho : ops[j]? = some o) (h : isF P ops S j = true) :
    wantedT ops o (S j).tm = true ∧ isQuiet P o = false ∧ isFresh o = true ∧ ∃ n, fresh P o (ev (S j).tm) = some n ∧ newOf P ops S j = some n ∧ val j = n.at (base + j) ∧ (S (j + 1)).pend = (j, n) :: (S j).pend := by
  simp only [isF, ho, Option.any_some, Bool.and_eq_true, Bool.not_eq_true'] at h
  obtain ⟨⟨h1, h2⟩, h3⟩ := h
  rcases (C.step j o ho).how with ⟨g1, _⟩ | ⟨_, g2, _⟩ | ⟨g1, g2, g3, n, g4, g5, _, g6, _⟩ | ⟨_, _, g3, _⟩
  · rw [h1] at g1; cases g1
  · rw [h2] at g2; cases g2
  · exact ⟨g1, g2, g3, n, g4, by simp [newOf, ho, g4], g5, g6⟩
  · rw [h3] at g3; cases g3
theorem notEF_step (C : Canon P k ops base tm0 S val) {j : Nat} {o : Oper} (ho : ops[j]? = some o) (h : isE P ops S j = false) (h' : isF P ops S j = false) : (S (j + 1)).pend = (S j).pend := by
  rcases (C.step j o ho).how with ⟨_, _, _, g4, _⟩ | ⟨_, _, _, _, g4, _⟩ | ⟨g1, g2, g3, _⟩ | ⟨g1, g2, g3, _⟩
  · exact g4
  · exact g4
  · simp [isF, ho, g1, g2, g3] at h'
  · simp [isE, ho, g1, g2, g3] at h
theorem E_notF {j : Nat} (h : isE P ops S j = true) : isF P ops S j = false := by
  unfold isE at h
  unfold isF
  cases ho : ops[j]? with
  | none => rfl
  | some o =>
    simp only [ho, Option.any_some, Bool.and_eq_true, Bool.not_eq_true'] at h
    simp [h.2]

theorem Canon.h_at (C : Canon P k ops base tm0 S val) : ∀ m, m ≤ ops.size → (S m).h = match lastOf (isE P ops S) m with | some e => (S (e + 1)).h | none => (S 0).h := by
  intro m
  induction m with
  | zero => intro _; rfl
  | succ m ih =>
    intro hm
    obtain ⟨o, ho⟩ := op_at (show m < ops.size by omega)
    simp only [lastOf]
    cases hE : isE P ops S m with
    | true => rfl
    | false =>
      simp only [Bool.false_eq_true, if_false]
      rw [(notE_step C ho hE).1]
      exact ih (by omega)

theorem Canon.pend_at (C : Canon P k ops base tm0 S val) : ∀ m, m ≤ ops.size → (∀ p : Nat × New, p ∈ (S m).pend ↔ p.1 < m ∧ isF P ops S p.1 = true ∧ newOf P ops S p.1 = some p.2 ∧ ∀ e, e < m → isE P ops S e = true → Ah ops p.1 e = false) ∧
    (S m).pend.Pairwise (fun p q => p.1 ≠ q.1) := by
  intro m
  induction m with
  | zero => intro _; rw [C.pend]; exact ⟨fun p => by simp, .nil⟩
  | succ m ih =>
    intro hm
    obtain ⟨o, ho⟩ := op_at (show m < ops.size by omega)
    obtain ⟨ih1, ih2⟩ := ih (by omega)
    have hlt := ahead_lt C.edge ops.size
    cases hE : isE P ops S m with
    | true =>
      obtain ⟨_, _, _, _, g5, _⟩ := isE_step C ho hE
      rw [g5]
      refine ⟨fun p => ?_, ih2.filter _⟩
      rw [List.mem_filter, ih1]
      have hFm := E_notF hE
      constructor
      · rintro ⟨⟨h1, h2, h3, h4⟩, h5⟩
        refine ⟨by omega, h2, h3, fun e he hEe => ?_⟩
        by_cases e1 : e = m
        · subst e1; simpa using h5
        · exact h4 e (by omega) hEe
      · rintro ⟨h1, h2, h3, h4⟩
        have : p.1 ≠ m := fun e => by rw [e, hFm] at h2; cases h2
        exact ⟨⟨by omega, h2, h3, fun e he hEe => h4 e (by omega) hEe⟩, by have := h4 m (by omega) hE; simpa using this⟩
    | false =>
      cases hF : isF P ops S m with
      | true =>
        obtain ⟨_, _, _, n, _, g5, _, g7⟩ := isF_step C ho hF
        rw [g7]
        refine ⟨fun p => ?_, List.pairwise_cons.2 ⟨fun q hq => ?_, ih2⟩⟩
        · rw [List.mem_cons, ih1]
          constructor
          · rintro (rfl | ⟨h1, h2, h3, h4⟩)
            · refine ⟨by simp, hF, g5, fun e he hEe => ?_⟩
              cases hA : Ah ops m e with
              | false => rfl
              | true => have := hlt m e hA; omega
            · refine ⟨by omega, h2, h3, fun e he hEe => ?_⟩
              by_cases e1 : e = m
              · subst e1; rw [hE] at hEe; cases hEe
              · exact h4 e (by omega) hEe
          · rintro ⟨h1, h2, h3, h4⟩
            by_cases e : p.1 = m
            · left
              obtain ⟨i, nn⟩ := p
              simp only at e h3
              subst e
              rw [g5] at h3; cases h3
              rfl
            · exact .inr ⟨by omega, h2, h3, fun e he hEe => h4 e (by omega) hEe⟩
        · have := ((ih1 q).1 hq).1
          simp only; omega
      | false =>
        rw [notEF_step C ho hE hF]
        refine ⟨fun p => ?_, ih2⟩
        rw [ih1]
        constructor
        · rintro ⟨h1, h2, h3, h4⟩
          refine ⟨by omega, h2, h3, fun e he hEe => ?_⟩
          by_cases e1 : e = m
          · subst e1; rw [hE] at hEe; cases hEe
          · exact h4 e (by omega) hEe
        · rintro ⟨h1, h2, h3, h4⟩
          have : p.1 ≠ m := fun e => by rw [e, hF] at h2; cases h2
          exact ⟨by omega, h2, h3, fun e he hEe => h4 e (by omega) hEe⟩

/-- What the list of effects tells. -/
theorem Canon.effs_at (C : Canon P k ops base tm0 S val) : ∀ m, m ≤ ops.size → ((S m).effs = [] ∧ ∀ e, e < m → isE P ops S e = false) ∨
    ∃ j, j < m ∧ isE P ops S j = true ∧ (∀ e, j < e → e < m → isE P ops S e = false) ∧ (S m).effs = (j, (S j).h) :: (S j).effs := by
  intro m
  induction m with
  | zero => intro _; exact .inl ⟨C.effs, fun e he => by omega⟩
  | succ m ih =>
    intro hm
    obtain ⟨o, ho⟩ := op_at (show m < ops.size by omega)
    cases hE : isE P ops S m with
    | true =>
      obtain ⟨_, _, _, _, _, g6⟩ := isE_step C ho hE
      exact .inr ⟨m, by omega, hE, fun e h1 h2 => by omega, g6⟩
    | false =>
      rw [(notE_step C ho hE).2]
      rcases ih (by omega) with ⟨h1, h2⟩ | ⟨j, h1, h2, h3, h4⟩
      · refine .inl ⟨h1, fun e he => ?_⟩
        by_cases e1 : e = m
        · subst e1; exact hE
        · exact h2 e (by omega)
      · refine .inr ⟨j, by omega, h2, fun e he1 he2 => ?_, h4⟩
        by_cases e1 : e = m
        · subst e1; exact hE
        · exact h3 e he1 (by omega)

/-! ### a set of operations that are done -/
structure Closed (ops : Array Oper) (D : Nat → Bool) (i : Nat) : Prop where
  closed : ∀ j o, ops[j]? = some o → D j = true → ∀ e ∈ edgesOf o, D e = true
  out : D i = false
  here : i < ops.size
  edges : ∀ o, ops[i]? = some o → ∀ e ∈ edgesOf o, D e = true

theorem Closed.of_ahead {D : Nat → Bool} {i j : Nat} (hc : Closed ops D i) (h : Ah ops j i = true) : D j = true := by
  unfold Ah at h
  have hpos : ∃ f, ops.size = f + 1 := ⟨ops.size - 1, by have := hc.here; omega⟩
  obtain ⟨f, hf⟩ := hpos
  have : ∀ f, ahead ops (f + 1) j i = true → D j = true := by
    intro f h
    unfold ahead at h
    split at h
    · cases h
    · rename_i o ho
      obtain ⟨e, he1, he2⟩ := List.any_eq_true.1 h
      have hDe := hc.edges o ho e he1
      simp only [Bool.or_eq_true] at he2
      rcases he2 with he2 | he2
      · rw [← Nat.eq_of_beq_eq_true he2]; exact hDe
      · exact ahead_closed hc.closed f j e he2 hDe
  rw [hf] at h
  exact this f h
theorem Closed.not_behind {D : Nat → Bool} {i j : Nat} (hc : Closed ops D i) (hj : D j = true) : Ah ops i j = false := by
  cases h : Ah ops i j with
  | false => rfl
  | true => have := ahead_closed hc.closed ops.size i j h hj; rw [hc.out] at this; cases this

/-- Who writes what an operation looks at has written it just where it stands ahead of it. -/
theorem writer_iff (C : Canon P k ops base tm0 S val) {D : Nat → Bool} {i : Nat} {o : Oper} (hc : Closed ops D i) (ho : ops[i]? = some o) {t : Nat} (ht : t ∈ o.looksAt ops) (j : Nat) :
    (j < ops.size ∧ (D j && dstIs ops t j) = true) ↔ (j < i ∧ dstIs ops t j = true) := by
  have hi := hc.here
  constructor
  · rintro ⟨h1, h2⟩
    simp only [Bool.and_eq_true] at h2
    refine ⟨?_, h2.2⟩
    rcases Nat.lt_trichotomy j i with e | e | e
    · exact e
    · subst e; rw [hc.out] at h2; cases h2.1
    · obtain ⟨oj, hoj⟩ := op_at h1
      have hp := C.pair j oj i o e hoj ho
      unfold okPair at hp
      simp only [Bool.or_eq_true, Bool.and_eq_true] at hp
      rcases hp with hp | ⟨hp, _⟩
      · have := hc.not_behind h2.1
        unfold Ah at this
        rw [hp] at this; cases this
      · obtain ⟨_, _, h3⟩ := Oper.apart_spec hp
        have hd : oj.dst = some t := by have := h2.2; simpa [dstIs, hoj] using this
        exact absurd ht (h3 t hd)
  · rintro ⟨h1, h2⟩
    refine ⟨by omega, ?_⟩
    simp only [Bool.and_eq_true]
    refine ⟨?_, h2⟩
    obtain ⟨oj, hoj⟩ := op_at (show j < ops.size by omega)
    have hp := C.pair i o j oj h1 ho hoj
    unfold okPair at hp
    simp only [Bool.or_eq_true, Bool.and_eq_true] at hp
    rcases hp with hp | ⟨hp, _⟩
    · exact hc.of_ahead hp
    · obtain ⟨h3, _, _⟩ := Oper.apart_spec hp
      have hd : oj.dst = some t := by simpa [dstIs, hoj] using h2
      exact absurd ht (h3 t hd)

theorem getT_tmD (D : Nat → Bool) (t : Nat) : getT (tmD ops tm0 val D) t = if t < tm0.length then tmAt ops tm0 val D t else undef := by
  rw [getT_eq, List.getD_eq_getElem?_getD, tmD, List.getElem?_map]
  by_cases h : t < tm0.length
  · rw [if_pos h, List.getElem?_range h]; rfl
  · rw [if_neg h, List.getElem?_eq_none (by simp; omega)]; rfl

theorem looks_same (C : Canon P k ops base tm0 S val) {D : Nat → Bool} {i : Nat} {o : Oper} (hc : Closed ops D i) (ho : ops[i]? = some o) {t : Nat} (ht : t ∈ o.looksAt ops) : getT (tmD ops tm0 val D) t = getT (S i).tm t := by
  rw [getT_tmD]
  by_cases h : t < tm0.length
  · rw [if_pos h, C.tm_at i (by have := hc.here; omega) t h]
    unfold tmAt
    rw [lastOf_eq (writer_iff C hc ho ht)]
  · rw [if_neg h, getT_eq, List.getD_eq_getElem?_getD, List.getElem?_eq_none (by rw [C.tm_len i (by have := hc.here; omega)]; omega)]; rfl

theorem ev_same (C : Canon P k ops base tm0 S val) {D : Nat → Bool} {i : Nat} {o : Oper} (hc : Closed ops D i) (ho : ops[i]? = some o) {x : Operand} (hx : x ∈ o.op.operands) : ev (tmD ops tm0 val D) x = ev (S i).tm x := by
  cases x with
  | tmp t =>
    refine looks_same C hc ho ?_
    simp only [Oper.looksAt, List.mem_append, List.mem_filterMap]
    exact .inl ⟨.tmp t, by simpa using hx, rfl⟩
  | _ => rfl
theorem wanted_same (C : Canon P k ops base tm0 S val) {D : Nat → Bool} {i : Nat} {o : Oper} (hc : Closed ops D i) (ho : ops[i]? = some o) : wantedT ops o (tmD ops tm0 val D) = wantedT ops o (S i).tm := by
  unfold wantedT
  cases hg : o.guard with
  | none => rfl
  | some g =>
    obtain ⟨j, want⟩ := g
    simp only
    cases hd : (ops[j]?).bind (·.dst) with
    | none => rfl
    | some d =>
      have := looks_same C hc ho (t := d) (by simp [Oper.looksAt, hg, hd])
      simp only [guardVal, this]

def D1 (D : Nat → Bool) (i : Nat) : Nat → Bool := fun j => if j = i then true else D j

theorem tmD_put (C : Canon P k ops base tm0 S val) {D : Nat → Bool} {i : Nat} {o : Oper} (hc : Closed ops D i) (ho : ops[i]? = some o) : tmD ops tm0 val (D1 D i) = putT (tmD ops tm0 val D) o.dst (val i) := by
  have key : ∀ t, o.dst ≠ some t → tmAt ops tm0 val (D1 D i) t = tmAt ops tm0 val D t := by
    intro t hne
    unfold tmAt
    rw [lastOf_eq (q := fun j => D j && dstIs ops t j) (n := ops.size) fun j => ?_]
    by_cases e : j = i
    · subst e
      simp [D1, dstIs, ho, hne]
    · simp [D1, e]
  cases hd : o.dst with
  | none =>
    simp only [putT, tmD]
    exact List.map_congr_left fun t _ => key t (by rw [hd]; simp)
  | some d =>
    simp only [putT, setT_eq]
    apply List.ext_getElem?
    intro t
    rw [List.getElem?_set]
    simp only [tmD, List.length_map, List.length_range, List.getElem?_map]
    by_cases e : d = t
    · subst e
      rw [if_pos rfl]
      by_cases hl : d < tm0.length
      · rw [if_pos hl, List.getElem?_range hl]
        simp only [Option.map_some]
        congr 1
        unfold tmAt
        have hlast : lastOf (fun j => D1 D i j && dstIs ops d j) ops.size = some i := by
          refine lastOf_is hc.here (by simp [D1, dstIs, ho, hd]) fun t h1 h2 => ?_
          obtain ⟨ot, hot⟩ := op_at h2
          have hp := C.pair t ot i o h1 hot ho
          unfold okPair at hp
          simp only [Bool.or_eq_true, Bool.and_eq_true] at hp
          have hne : t ≠ i := by omega
          simp only [D1, hne, if_false, Bool.and_eq_false_iff]
          rcases hp with hp | ⟨hp, _⟩
          · left
            cases hD : D t with
            | false => rfl
            | true =>
              have := hc.not_behind hD
              unfold Ah at this
              rw [hp] at this; cases this
          · right
            obtain ⟨_, h3, _⟩ := Oper.apart_spec hp
            have := h3 d hd
            simp [dstIs, hot, this]
        rw [hlast]
      · have hle : (List.range tm0.length).length ≤ d := by rw [List.length_range]; exact Nat.le_of_not_lt hl
        rw [if_neg hl, List.getElem?_eq_none hle]; rfl
    · rw [if_neg e]
      by_cases hl : t < tm0.length
      · rw [List.getElem?_range hl]
        simp only [Option.map_some]
        rw [key t (by rw [hd]; simpa using e)]
      · have hle : (List.range tm0.length).length ≤ t := by rw [List.length_range]; omega
        rw [List.getElem?_eq_none hle]
        rfl
end
end Go.AX

namespace Go.AX
open Go
section
variable {P : Program} {k : Caller} {ops : Array Oper} {base : Nat} {tm0 : Tm} {S : Nat → Ran} {val : Nat → Value} {NG B : Nat}

theorem HD_E (C : Canon P k ops base tm0 S val) {D : Nat → Bool} {i : Nat} (hc : Closed ops D i) (hE : isE P ops S i = true) : HD P ops S D = (S i).h := by
  have hi := hc.here
  rw [C.h_at i (by omega)]
  unfold HD
  rw [lastOf_eq (q := isE P ops S) (n := i) fun j => ?_]
  obtain ⟨o, ho⟩ := op_at hi
  obtain ⟨_, g2, g3, _⟩ := isE_step C ho hE
  constructor
  · rintro ⟨h1, h2⟩
    simp only [Bool.and_eq_true] at h2
    refine ⟨?_, h2.2⟩
    rcases Nat.lt_trichotomy j i with e | e | e
    · exact e
    · subst e; rw [hc.out] at h2; cases h2.1
    · obtain ⟨oj, hoj⟩ := op_at h1
      obtain ⟨_, f2, f3, _⟩ := isE_step C hoj h2.2
      have hp := C.pair j oj i o e hoj ho
      simp only [okPair, g2, g3, f2, f3, Bool.or_false, Bool.and_false] at hp
      have := hc.not_behind h2.1
      unfold Ah at this
      rw [hp] at this; cases this
  · rintro ⟨h1, h2⟩
    refine ⟨by omega, ?_⟩
    obtain ⟨oj, hoj⟩ := op_at (show j < ops.size by omega)
    obtain ⟨_, f2, f3, _⟩ := isE_step C hoj h2
    have hp := C.pair i o j oj h1 ho hoj
    simp only [okPair, g2, g3, f2, f3, Bool.or_false, Bool.and_false] at hp
    simp only [h2, Bool.and_true]
    exact hc.of_ahead hp

theorem HD_E1 (C : Canon P k ops base tm0 S val) {D : Nat → Bool} {i : Nat} (hc : Closed ops D i) (hE : isE P ops S i = true) : HD P ops S (D1 D i) = (S (i + 1)).h := by
  unfold HD
  have : lastOf (fun j => D1 D i j && isE P ops S j) ops.size = some i := by
    refine lastOf_is hc.here (by simp [D1, hE]) fun t h1 h2 => ?_
    have hne : t ≠ i := by omega
    simp only [D1, hne, if_false, Bool.and_eq_false_iff]
    cases hEt : isE P ops S t with
    | false => exact .inr rfl
    | true =>
      left
      obtain ⟨o, ho⟩ := op_at hc.here
      obtain ⟨ot, hot⟩ := op_at h2
      obtain ⟨_, g2, g3, _⟩ := isE_step C ho hE
      obtain ⟨_, f2, f3, _⟩ := isE_step C hot hEt
      have hp := C.pair t ot i o h1 hot ho
      simp only [okPair, g2, g3, f2, f3, Bool.or_false, Bool.and_false] at hp
      cases hD : D t with
      | false => rfl
      | true =>
        have := hc.not_behind hD
        unfold Ah at this
        rw [hp] at this; cases this
  rw [this]
theorem HD_notE {D : Nat → Bool} {i : Nat} (hE : isE P ops S i = false) : HD P ops S (D1 D i) = HD P ops S D := by
  unfold HD
  rw [lastOf_eq (q := fun j => D j && isE P ops S j) (n := ops.size) fun j => ?_]
  by_cases e : j = i
  · subst e; simp [hE]
  · simp [D1, e]

/-- What was looked at reads so at every heap that there may be. -/
theorem holds_at (C : Canon P k ops base tm0 S val) {D : Nat → Bool} {i : Nat} (hc : Closed ops D i) (x : Seen) (hxi : x.i = i) : ∀ m, m ≤ ops.size → (∀ e, e < ops.size → D e = true → isE P ops S e = true → e < m) →
    holdsAt P ops x (S m).h (S m).effs = true → quiet P x.o (ev x.tm) (HD P ops S D) = some x.v := by
  have hone : ∀ h, holdsAt.holds1 P x h = true → quiet P x.o (ev x.tm) h = some x.v := by
    intro h hh
    unfold holdsAt.holds1 at hh
    split at hh
    · rename_i v hv
      rw [hv, sameV_eq hh]
    · cases hh
  intro m
  induction m using Nat.strongRecOn with
  | _ m ih =>
    intro hm hD hh
    rcases C.effs_at m hm with ⟨h1, h2⟩ | ⟨j, h1, h2, h3, h4⟩
    · rw [h1] at hh
      have e1 : HD P ops S D = (S m).h := by
        rw [C.h_at m hm]
        have n1 : lastOf (isE P ops S) m = none := by
          cases hl : lastOf (isE P ops S) m with
          | none => rfl
          | some e => obtain ⟨f1, f2, _⟩ := lastOf_some hl; rw [h2 e f1] at f2; cases f2
        have n2 : lastOf (fun j => D j && isE P ops S j) ops.size = none := by
          cases hl : lastOf (fun j => D j && isE P ops S j) ops.size with
          | none => rfl
          | some e =>
            obtain ⟨f1, f2, _⟩ := lastOf_some hl
            simp only [Bool.and_eq_true] at f2
            have := hD e f1 f2.1 f2.2
            rw [h2 e this] at f2; cases f2.2
        unfold HD
        rw [n1, n2]
      rw [e1]
      exact hone _ hh
    · rw [h4] at hh
      simp only [holdsAt, Bool.and_eq_true, Bool.or_eq_true] at hh
      obtain ⟨hh1, hh2⟩ := hh
      rw [hxi] at hh1 hh2
      cases hDj : D j with
      | true =>
        have e1 : HD P ops S D = (S m).h := by
          rw [C.h_at m hm, lastOf_is h1 h2 h3]
          unfold HD
          rw [lastOf_is (p := fun j => D j && isE P ops S j) (j := j) (by omega) (by simp [hDj, h2]) (fun t ht1 ht2 => ?_)]
          cases hDt : D t with
          | false => rfl
          | true =>
            cases hEt : isE P ops S t with
            | false => rfl
            | true =>
              have := hD t ht2 hDt hEt
              rw [h3 t ht1 this] at hEt; cases hEt
        rw [e1]
        rcases hh1 with hh1 | hh1
        · have := hc.not_behind hDj
          unfold Ah at this
          rw [hh1] at this; cases this
        · exact hone _ hh1
      | false =>
        rcases hh2 with hh2 | hh2
        · have := hc.of_ahead (j := j) hh2
          rw [hDj] at this; cases this
        · refine ih j h1 (by omega) (fun e he hDe hEe => ?_) hh2
          have h5 := hD e he hDe hEe
          rcases Nat.lt_trichotomy e j with h6 | h6 | h6
          · exact h6
          · subst h6; rw [hDj] at hDe; cases hDe
          · rw [h3 e h6 h5] at hEe; cases hEe

theorem seen_mem (C : Canon P k ops base tm0 S val) {i : Nat} {o : Oper} (ho : ops[i]? = some o) (hw : wantedT ops o (S i).tm = true) (hq : isQuiet P o = true) (hl : looks o = true) : ∀ m, m ≤ ops.size → i < m → (⟨i, o, (S i).tm, val i⟩ : Seen) ∈ (S m).seen := by
  intro m
  induction m with
  | zero => intro _ h; omega
  | succ m ih =>
    intro hm hi
    obtain ⟨om, hom⟩ := op_at (show m < ops.size by omega)
    by_cases e : i = m
    · subst e
      rw [ho] at hom; cases hom
      rcases (C.step i o ho).how with ⟨g1, _⟩ | ⟨_, _, _, _, _, _, g7⟩ | ⟨_, g2, _⟩ | ⟨_, g2, _⟩
      · rw [hw] at g1; cases g1
      · rw [g7, if_pos hl]; exact List.mem_cons_self
      · rw [hq] at g2; cases g2
      · rw [hq] at g2; cases g2
    · have := ih (by omega) (by omega)
      rcases (C.step m om hom).how with ⟨_, _, _, _, _, g6⟩ | ⟨_, _, _, _, _, _, g7⟩ | ⟨_, _, _, _, _, _, _, _, _, g6⟩ | ⟨_, _, _, _, _, _, g6⟩
      · rw [g6]; exact this
      · rw [g7]; split
        · exact List.mem_cons_of_mem _ this
        · exact this
      · rw [g6]; exact this
      · rw [g6]; exact this

/-! ### rows that are made and not laid yet -/
/-- What is known of one. -/
structure PendF (B : Nat) (ρ : Map) (h : Heap) (w0 w : World) (x : Nat) (nn : New) (cb : Nat) (c : List Value) : Prop where
  loc : ρ x = some ⟨cb, 0, c.length, nn.es, nn.cells.length⟩
  there : w.heap[cb]? = some (.cells c.toArray nn.elem)
  row : LR ρ nn.cells c
  own : B ≤ cb
  new : w0.heap.size ≤ cb
  apart : ∀ z l, Alive h z → ρ z = some l → l.b ≠ cb

theorem layAll_sound {w w0 : World} {ρ : Map} : ∀ (L : List (Nat × New)) {h : Heap} (_ : HR NG B ρ h w) (_ : ∀ p, p ∈ L → ∃ cb c, PendF B ρ h w0 w (base + p.1) p.2 cb c)
    (_ : L.Pairwise fun p q => ∀ lp lq, ρ (base + p.1) = some lp → ρ (base + q.1) = some lq → lp.b ≠ lq.b), HR NG B ρ (h.layAll base L) w ∧ (h.layAll base L).next = h.next ∧ ∀ z, (Alive (h.layAll base L) z → Alive h z ∨ ∃ p, p ∈ L ∧ z = base + p.1) ∧ (Wr (h.layAll base L) z → Wr h z ∨ ∃ p, p ∈ L ∧ z = base + p.1) := by
  intro L
  induction L with
  | nil => intro h hh _ _; exact ⟨hh, rfl, fun z => ⟨.inl, .inl⟩⟩
  | cons p L ih =>
    intro h hh hp hd
    obtain ⟨i, nn⟩ := p
    obtain ⟨cb, c, hf⟩ := hp (i, nn) (by simp)
    have hlen : nn.cells.length = c.length := hf.row.1
    have h1 : HR NG B ρ (h.lay (base + i) nn) w := hh.live hf.loc (by simp) hf.there (.inl rfl) (by
      have e : c.toArray.toList.take nn.cells.length = c := by simp [hlen]
      rw [e]; exact hf.row) (by simp; omega) hf.own hf.apart
    have hal : ∀ z, (Alive (h.lay (base + i) nn) z → z = base + i ∨ Alive h z) ∧ (Wr (h.lay (base + i) nn) z → z = base + i ∨ Wr h z) := fun z => alive_get (o := .cells ⟨nn.cells, nn.elem, nn.es, base + i, false⟩) (fun z => by simp only [Heap.lay, Heap.get_setMembers, Heap.get_put]) z
    obtain ⟨hd1, hd2⟩ := List.pairwise_cons.1 hd
    obtain ⟨g1, g2, g3⟩ := ih h1 (fun q hq => by
      obtain ⟨cq, c2, hq2⟩ := hp q (by simp [hq])
      refine ⟨cq, c2, { hq2 with apart := fun z l hz hl => ?_ }⟩
      rcases (hal z).1 hz with e | e
      · subst e
        exact hd1 q hq l _ hl hq2.loc
      · exact hq2.apart z l e hl) hd2
    refine ⟨g1, by rw [Heap.layAll, g2]; simp [Heap.lay, Heap.next_setMembers, Heap.next_put], fun z => ⟨fun hz => ?_, fun hz => ?_⟩⟩
    · rcases (g3 z).1 hz with e | ⟨q, hq, e⟩
      · rcases (hal z).1 e with e | e
        · exact .inr ⟨(i, nn), by simp, e⟩
        · exact .inl e
      · exact .inr ⟨q, by simp [hq], e⟩
    · rcases (g3 z).2 hz with e | ⟨q, hq, e⟩
      · rcases (hal z).2 e with e | e
        · exact .inr ⟨(i, nn), by simp, e⟩
        · exact .inl e
      · exact .inr ⟨q, by simp [hq], e⟩

structure Inv (P : Program) (ops : Array Oper) (base : Nat) (tm0 : Tm) (S : Nat → Ran) (val : Nat → Value) (NG B : Nat) (ρ0 : Map) (h0 : Heap) (w0 : World) (ds : List Deferred) (D : Nat → Bool) (a : Act) (w : World) (ρ : Map) : Prop where
  step : Step base ρ0 h0 w0 ρ (HD P ops S D) w
  hr : HR NG B ρ (HD P ops S D) w
  tr : TR ρ (tmD ops tm0 val D) a
  defers : a.defers = ds
  free : ∀ i, i < ops.size → D i = false ∨ isF P ops S i = false → ρ (base + i) = none
  room : base + ops.size ≤ (HD P ops S D).next
  pend : ∀ i nn, PendD P ops S D i → newOf P ops S i = some nn → ∃ cb c, PendF B ρ (HD P ops S D) w0 w (base + i) nn cb c
  diff : ∀ i j li lj, PendD P ops S D i → PendD P ops S D j → i ≠ j → ρ (base + i) = some li → ρ (base + j) = some lj → li.b ≠ lj.b

/-- With rows laid, that are made: a later state still. -/
theorem step_lay {ρ0 ρ : Map} {h0 h h1 : Heap} {w0 w : World} (hs : Step base ρ0 h0 w0 ρ h w) (hn : h1.next = h.next) (ha : ∀ z, (Alive h1 z → Alive h z ∨ ∃ l, ρ z = some l ∧ w0.heap.size ≤ l.b) ∧ (Wr h1 z → Wr h z ∨ ∃ l, ρ z = some l ∧ w0.heap.size ≤ l.b)) : Step base ρ0 h0 w0 ρ h1 w :=
  { hs with
    next := by rw [hn]; exact hs.next
    alive := fun x l hx hl => by
      rcases (ha x).1 hx with h2 | ⟨l2, h2, h3⟩
      · exact hs.alive x l h2 hl
      · rw [h2] at hl; cases hl; exact .inl h3
    wr := fun x l hx hl => by
      rcases (ha x).2 hx with h2 | ⟨l2, h2, h3⟩
      · exact hs.wr x l h2 hl
      · rw [h2] at hl; cases hl; exact .inl h3 }
end
end Go.AX

namespace Go.AX
open Go
section
variable {P : Program} {k : Caller} {ops : Array Oper} {base : Nat} {tm0 : Tm} {S : Nat → Ran} {val : Nat → Value} {NG B : Nat}

theorem PendD_notE {D : Nat → Bool} {i : Nat} (hc : Closed ops D i) (hE : isE P ops S i = false) {j : Nat} : PendD P ops S (D1 D i) j → PendD P ops S D j ∨ (j = i ∧ isF P ops S i = true) := by
  rintro ⟨h1, h2, h3, h4⟩
  by_cases e : j = i
  · subst e; exact .inr ⟨rfl, h3⟩
  · refine .inl ⟨h1, by simpa [D1, e] using h2, h3, fun x hx hDx hEx => h4 x hx ?_ hEx⟩
    unfold D1; split
    · rfl
    · exact hDx
theorem PendD_E {D : Nat → Bool} {i : Nat} (hc : Closed ops D i) (hE : isE P ops S i = true) {j : Nat} : PendD P ops S (D1 D i) j → PendD P ops S D j ∧ Ah ops j i = false := by
  rintro ⟨h1, h2, h3, h4⟩
  have e : j ≠ i := by
    rintro rfl
    rw [E_notF hE] at h3; cases h3
  refine ⟨⟨h1, by simpa [D1, e] using h2, h3, fun x hx hDx hEx => h4 x hx ?_ hEx⟩, h4 i hc.here (by simp [D1]) hE⟩
  unfold D1; split
  · rfl
  · exact hDx

/-- Effects that are done stand ahead. -/
theorem E_before (C : Canon P k ops base tm0 S val) {D : Nat → Bool} {i : Nat} (hc : Closed ops D i) (hE : isE P ops S i = true) {e : Nat} (h1 : e < ops.size) (hD : D e = true) (hEe : isE P ops S e = true) : e < i := by
  obtain ⟨o, ho⟩ := op_at hc.here
  obtain ⟨_, g2, g3, _⟩ := isE_step C ho hE
  rcases Nat.lt_trichotomy e i with h | h | h
  · exact h
  · subst h; rw [hc.out] at hD; cases hD
  · obtain ⟨oj, hoj⟩ := op_at h1
    obtain ⟨_, f2, f3, _⟩ := isE_step C hoj hEe
    have hp := C.pair e oj i o h hoj ho
    simp only [okPair, g2, g3, f2, f3, Bool.or_false, Bool.and_false] at hp
    have := hc.not_behind hD
    unfold Ah at this
    rw [hp] at this; cases this

section
variable {ρ0 ρ : Map} {h0 : Heap} {w0 w : World} {ds : List Deferred} {D : Nat → Bool} {a : Act} {i : Nat} {o : Oper}

theorem Inv.ev (I : Inv P ops base tm0 S val NG B ρ0 h0 w0 ds D a w ρ) (C : Canon P k ops base tm0 S val) (hG : NG = P.globals.size) (hc : Closed ops D i) (ho : ops[i]? = some o) (hok : ∀ x, x ∈ o.op.operands → opdOk P x = true) :
    ∀ x, x ∈ o.op.operands → VR ρ (AX.ev (S i).tm x) (a.eval x) := fun x hx => by
  rw [← ev_same C hc ho hx]
  exact I.tr.eval I.hr hG (hok x hx)

theorem put_defers (a : Act) (d : Option Tmp) (v : Value) : (a.put d v).defers = a.defers := by cases d <;> rfl

/-- Nothing is made nor turned. -/
theorem Inv.still (I : Inv P ops base tm0 S val NG B ρ0 h0 w0 ds D a w ρ) (C : Canon P k ops base tm0 S val) (hc : Closed ops D i) (ho : ops[i]? = some o) (hE : isE P ops S i = false) (hF : isF P ops S i = false) {v' : Value} (hv : VR ρ (val i) v') :
    Inv P ops base tm0 S val NG B ρ0 h0 w0 ds (D1 D i) (a.put o.dst v') w ρ := by
  have hHD := HD_notE (P := P) (S := S) (D := D) hE
  have hpd : ∀ j, PendD P ops S (D1 D i) j → PendD P ops S D j := fun j hj => by
    rcases PendD_notE hc hE hj with h | ⟨_, h⟩
    · exact h
    · rw [hF] at h; cases h
  exact {
    step := by rw [hHD]; exact I.step
    hr := by rw [hHD]; exact I.hr
    tr := by rw [tmD_put C hc ho]; exact I.tr.put hv _
    defers := by rw [put_defers]; exact I.defers
    free := fun j hj h => by
      by_cases e : j = i
      · subst e; exact I.free j hj (.inl hc.out)
      · exact I.free j hj (by simpa [D1, e] using h)
    room := by rw [hHD]; exact I.room
    pend := fun j nn hj hn => by rw [hHD]; exact I.pend j nn (hpd j hj) hn
    diff := fun x y lx ly hx hy => I.diff x y lx ly (hpd x hx) (hpd y hy) }

/-- A row is made. -/
theorem Inv.fresh (I : Inv P ops base tm0 S val NG B ρ0 h0 w0 ds D a w ρ) (C : Canon P k ops base tm0 S val) (hc : Closed ops D i) (ho : ops[i]? = some o) (hF : isF P ops S i = true) {n : New} (hn : newOf P ops S i = some n) (hval : val i = n.at (base + i))
    {c : List Value} (hl : LR ρ n.cells c) (hlen : ∀ l, n.len = some l → l * n.es ≤ c.length) :
    Inv P ops base tm0 S val NG B ρ0 h0 w0 ds (D1 D i) (a.put o.dst (n.at w.heap.size)) { w with heap := w.heap.push (.cells c.toArray n.elem) } (upd ρ (base + i) ⟨w.heap.size, 0, c.length, n.es, n.cells.length⟩) := by
  have hE : isE P ops S i = false := by
    cases h : isE P ops S i with
    | false => rfl
    | true => rw [E_notF h] at hF; cases hF
  have hHD := HD_notE (P := P) (S := S) (D := D) hE
  have hi := hc.here
  have hnone : ρ (base + i) = none := I.free i hi (.inl hc.out)
  have hext := Ext.upd ⟨w.heap.size, 0, c.length, n.es, n.cells.length⟩ hnone
  have hroom := I.room
  have hpd : ∀ j, PendD P ops S (D1 D i) j → j ≠ i → PendD P ops S D j := fun j hj hne => by
    rcases PendD_notE hc hE hj with h | ⟨h, _⟩
    · exact h
    · exact absurd h hne
  have hal : ∀ z l, Alive (HD P ops S D) z → upd ρ (base + i) ⟨w.heap.size, 0, c.length, n.es, n.cells.length⟩ z = some l → ρ z = some l := by
    intro z l hz hl
    have hzn : z ≠ base + i := by
      rintro rfl
      rcases hz with ⟨b, hb⟩ | ⟨s, p, hb⟩
      · obtain ⟨l2, h3, _⟩ := I.hr.cells _ b hb; rw [hnone] at h3; cases h3
      · obtain ⟨l2, h3, _⟩ := I.hr.iter _ s p hb; rw [hnone] at h3; cases h3
    rwa [upd_ne _ _ hzn] at hl
  exact {
    step := by
      rw [hHD]
      refine I.step.trans (Step.upd hnone (by omega) (Nat.le_refl _) (fun z => ⟨.inr, .inr⟩) (.inl (Nat.le_refl _)) (by simp) rfl rfl rfl fun b hb _ => ?_)
      simp only [Array.getElem?_push]; rw [if_neg (by omega)]
    hr := by
      rw [hHD]
      exact (I.hr.alloc _).extend hnone (by omega) (by simp)
    tr := by
      rw [tmD_put C hc ho, hval]
      exact (I.tr.mono hext).put (New.vr (upd_same _ _ _) hlen) _
    defers := by rw [put_defers]; exact I.defers
    free := fun j hj h => by
      by_cases e : j = i
      · subst e; simp [D1, hF] at h
      · rw [upd_ne _ _ (by omega)]
        exact I.free j hj (by simpa [D1, e] using h)
    room := by rw [hHD]; exact I.room
    pend := fun j nn hj hnn => by
      rw [hHD]
      by_cases e : j = i
      · subst e
        rw [hn] at hnn; cases hnn
        refine ⟨w.heap.size, c, upd_same _ _ _, by simp, hl.mono hext, I.hr.room, I.step.size, fun z l hz hl2 he => ?_⟩
        have := (I.hr.dom z l (hal z l hz hl2)).2
        omega
      · obtain ⟨cb, c2, hf⟩ := I.pend j nn (hpd j hj e) hnn
        refine ⟨cb, c2, hext _ _ hf.loc, ?_, hf.row.mono hext, hf.own, hf.new, fun z l hz hl2 => hf.apart z l hz (hal z l hz hl2)⟩
        have := (I.hr.dom _ _ hf.loc).2
        simp only [Array.getElem?_push]
        simp only at this
        rw [if_neg (by omega)]; exact hf.there
    diff := fun x y lx ly hx hy hne hlx hly => by
      by_cases e : x = i
      · have e' : y ≠ i := fun h => hne (e.trans h.symm)
        subst e
        rw [upd_same] at hlx; cases hlx
        rw [upd_ne _ _ (by omega)] at hly
        have := (I.hr.dom _ _ hly).2
        simp only; omega
      · rw [upd_ne _ _ (by omega)] at hlx
        by_cases e' : y = i
        · subst e'
          rw [upd_same] at hly; cases hly
          have := (I.hr.dom _ _ hlx).2
          simp only; omega
        · rw [upd_ne _ _ (by omega)] at hly
          exact I.diff x y lx ly (hpd x hx e) (hpd y hy e') hne hlx hly }

/-- An effect. -/
theorem Inv.effect (I : Inv P ops base tm0 S val NG B ρ0 h0 w0 ds D a w ρ) (C : Canon P k ops base tm0 S val) (hc : Closed ops D i) (ho : ops[i]? = some o) (hE : isE P ops S i = true) :
    ∃ H, AX.effect P k o (AX.ev (S i).tm) H = some (val i, (S (i + 1)).h) ∧ HR NG B ρ H w ∧ Step base ρ0 h0 w0 ρ H w ∧ ∀ ρ' w' v', Step H.next ρ H w ρ' (S (i + 1)).h w' → HR NG B ρ' (S (i + 1)).h w' → VR ρ' (val i) v' →
      Inv P ops base tm0 S val NG B ρ0 h0 w0 ds (D1 D i) (a.put o.dst v') w' ρ' := by
  obtain ⟨_, _, _, g4, g5, _⟩ := isE_step C ho hE
  have hi := hc.here
  have hHD := HD_E C hc hE
  have hHD1 := HD_E1 C hc hE
  obtain ⟨p1, p2⟩ := C.pend_at i (by omega)
  have hL : ∀ p, p ∈ ((S i).pend.filter fun x => ahead ops ops.size x.1 i) → PendD P ops S D p.1 ∧ newOf P ops S p.1 = some p.2 ∧ Ah ops p.1 i = true := by
    intro p hp
    rw [List.mem_filter] at hp
    obtain ⟨q1, q2, q3, q4⟩ := (p1 p).1 hp.1
    have hA : Ah ops p.1 i = true := by simpa using hp.2
    exact ⟨⟨by omega, hc.of_ahead hA, q2, fun e he hDe hEe => q4 e (E_before C hc hE he hDe hEe) hEe⟩, q3, hA⟩
  have hh := I.hr
  rw [hHD] at hh
  have hst := I.step
  rw [hHD] at hst
  obtain ⟨l1, l2, l3⟩ := layAll_sound (base := base) (w0 := w0) _ hh (fun p hp => by
    obtain ⟨cb, c, hf⟩ := I.pend p.1 p.2 (hL p hp).1 (hL p hp).2.1
    rw [hHD] at hf
    exact ⟨cb, c, hf⟩) ((p2.filter _).imp_of_mem fun {p q} hp hq hne lp lq h1 h2 => I.diff p.1 q.1 lp lq (hL p hp).1 (hL q hq).1 hne h1 h2)
  have hroom := I.room
  rw [hHD] at hroom
  have hst2 : Step base ρ0 h0 w0 ρ ((S i).h.layAll base ((S i).pend.filter fun x => ahead ops ops.size x.1 i)) w := by
    refine step_lay hst l2 fun z => ⟨fun hz => ?_, fun hz => ?_⟩
    · rcases (l3 z).1 hz with h | ⟨p, hp, rfl⟩
      · exact .inl h
      · obtain ⟨cb, c, hf⟩ := I.pend p.1 p.2 (hL p hp).1 (hL p hp).2.1
        exact .inr ⟨_, hf.loc, hf.new⟩
    · rcases (l3 z).2 hz with h | ⟨p, hp, rfl⟩
      · exact .inl h
      · obtain ⟨cb, c, hf⟩ := I.pend p.1 p.2 (hL p hp).1 (hL p hp).2.1
        exact .inr ⟨_, hf.loc, hf.new⟩
  refine ⟨_, g4, l1, hst2, fun ρ' w' v' s1 s2 s3 => ?_⟩
  have hsome : ∀ j nn, PendD P ops S D j → newOf P ops S j = some nn → ∃ l, ρ (base + j) = some l := fun j nn hj hn => by
    obtain ⟨cb, c, hf⟩ := I.pend j nn hj hn
    exact ⟨_, hf.loc⟩
  have hnew : ∀ j, PendD P ops S D j → ∃ nn, newOf P ops S j = some nn := fun j hj => by
    obtain ⟨oj, hoj⟩ := op_at hj.1
    obtain ⟨_, _, _, n, _, h5, _⟩ := isF_step C hoj hj.2.2.1
    exact ⟨n, h5⟩
  exact {
    step := by
      rw [hHD1]
      exact hst2.trans (s1.weaken (by rw [l2]; omega))
    hr := by rw [hHD1]; exact s2
    tr := by
      rw [tmD_put C hc ho]
      exact (I.tr.mono s1.ext).put s3 _
    defers := by rw [put_defers]; exact I.defers
    free := fun j hj h => by
      have h2 : ρ (base + j) = none := by
        by_cases e : j = i
        · subst e; exact I.free j hj (.inl hc.out)
        · exact I.free j hj (by simpa [D1, e] using h)
      cases e : ρ' (base + j) with
      | none => rfl
      | some l =>
        have := s1.new (base + j) h2 (by rw [e]; simp)
        rw [l2] at this
        omega
    room := by
      rw [hHD1]
      have := s1.next
      rw [l2] at this
      omega
    pend := fun j nn hj hnn => by
      rw [hHD1]
      obtain ⟨hj1, hj2⟩ := PendD_E hc hE hj
      obtain ⟨cb, c, hf⟩ := I.pend j nn hj1 hnn
      rw [hHD] at hf
      have hcb := (I.hr.dom _ _ hf.loc).2
      simp only at hcb
      have hap : ∀ z l, Alive ((S i).h.layAll base ((S i).pend.filter fun x => ahead ops ops.size x.1 i)) z → ρ z = some l → l.b ≠ cb := by
        intro z l hz hl
        rcases (l3 z).1 hz with h | ⟨p, hp, rfl⟩
        · exact hf.apart z l h hl
        · obtain ⟨q1, q2, q3⟩ := hL p hp
          have hne : p.1 ≠ j := by
            rintro e
            rw [e, hj2] at q3; cases q3
          exact I.diff p.1 j l _ q1 hj1 hne hl hf.loc
      refine ⟨cb, c, s1.ext _ _ hf.loc, ?_, hf.row.mono s1.ext, hf.own, hf.new, fun z l hz hl => ?_⟩
      · rw [s1.keep cb hcb fun z l hz => hap z l hz.alive]; exact hf.there
      · rcases s1.alive z l hz hl with h | ⟨y, ly, hy, hly, e⟩
        · omega
        · rw [← e]; exact hap y ly hy hly
    diff := fun x y lx ly hx hy hne hlx hly => by
      have hx1 := (PendD_E hc hE hx).1
      have hy1 := (PendD_E hc hE hy).1
      obtain ⟨nx, hnx⟩ := hnew x hx1
      obtain ⟨ny, hny⟩ := hnew y hy1
      obtain ⟨l1, e1⟩ := hsome x nx hx1 hnx
      obtain ⟨l2, e2⟩ := hsome y ny hy1 hny
      have f1 := s1.ext _ _ e1
      have f2 := s1.ext _ _ e2
      rw [hlx] at f1; cases f1
      rw [hly] at f2; cases f2
      exact I.diff x y lx ly hx1 hy1 hne e1 e2 }
end
end
end Go.AX

namespace Go.AX
open Go

def cntU (D : Nat → Bool) : Nat → Nat
  | 0 => 0
  | n + 1 => cntU D n + (if D n then 1 else 0)
theorem cntU_le (D : Nat → Bool) : ∀ n, cntU D n ≤ n := by
  intro n
  induction n with
  | zero => simp [cntU]
  | succ n ih => simp only [cntU]; split <;> omega
theorem cntU_all {D : Nat → Bool} : ∀ n, cntU D n = n → ∀ j, j < n → D j = true := by
  intro n
  induction n with
  | zero => intro _ j h; omega
  | succ n ih =>
    intro h j hj
    simp only [cntU] at h
    have := cntU_le D n
    split at h
    · rename_i hD
      by_cases e : j = n
      · subst e; exact hD
      · exact ih (by omega) j (by omega)
    · omega
theorem cntU_D1 {D : Nat → Bool} {i : Nat} (h : D i = false) : ∀ n, cntU (D1 D i) n = cntU D n + (if i < n then 1 else 0) := by
  intro n
  induction n with
  | zero => simp [cntU]
  | succ n ih =>
    simp only [cntU]
    rw [ih]
    by_cases e : n = i
    · subst e
      simp [D1, h]
    · by_cases e2 : i < n
      · simp [D1, e, e2, show i < n + 1 by omega]; omega
      · simp [D1, e, e2, show ¬ i < n + 1 by omega]

section
variable {P : Program} {k : Caller} {ops : Array Oper} {base : Nat} {tm0 : Tm} {S : Nat → Ran} {val : Nat → Value} {NG B : Nat}

/-- All of them done, what there is is what the one order comes to. -/
theorem Inv.last {ρ0 ρ : Map} {h0 : Heap} {w0 w : World} {ds : List Deferred} {D : Nat → Bool} {a : Act} (I : Inv P ops base tm0 S val NG B ρ0 h0 w0 ds D a w ρ) (C : Canon P k ops base tm0 S val) (hD : ∀ j, j < ops.size → D j = true) :
    Step base ρ0 h0 w0 ρ ((S ops.size).h.layAll base (S ops.size).pend) w ∧ HR NG B ρ ((S ops.size).h.layAll base (S ops.size).pend) w ∧ TR ρ (S ops.size).tm a := by
  have hh : HD P ops S D = (S ops.size).h := by
    rw [C.h_at ops.size (Nat.le_refl _)]
    unfold HD
    rw [lastOf_eq (q := isE P ops S) (n := ops.size) fun j => ?_]
    constructor
    · rintro ⟨h1, h2⟩
      simp only [Bool.and_eq_true] at h2
      exact ⟨h1, h2.2⟩
    · rintro ⟨h1, h2⟩
      exact ⟨h1, by simp [hD j h1, h2]⟩
  have ht : tmD ops tm0 val D = (S ops.size).tm := by
    apply List.ext_getElem?
    intro t
    have hlen := C.tm_len ops.size (Nat.le_refl _)
    by_cases e : t < tm0.length
    · have h1 := C.tm_at ops.size (Nat.le_refl _) t e
      simp only [tmD, List.getElem?_map, List.getElem?_range e, Option.map_some]
      rw [getT_eq, List.getD_eq_getElem?_getD] at h1
      have h2 : (S ops.size).tm[t]? = some ((S ops.size).tm[t]'(by omega)) := List.getElem?_eq_getElem (by omega)
      rw [h2, Option.getD_some] at h1
      rw [h2, h1]
      congr 1
      unfold tmAt
      rw [lastOf_eq (q := dstIs ops t) (n := ops.size) fun j => ?_]
      constructor
      · rintro ⟨h1, h2⟩
        simp only [Bool.and_eq_true] at h2
        exact ⟨h1, h2.2⟩
      · rintro ⟨h1, h2⟩
        exact ⟨h1, by simp [hD j h1, h2]⟩
    · rw [List.getElem?_eq_none (by simp [tmD]; omega), List.getElem?_eq_none (by omega)]
  obtain ⟨p1, p2⟩ := C.pend_at ops.size (Nat.le_refl _)
  have hL : ∀ p, p ∈ (S ops.size).pend → PendD P ops S D p.1 ∧ newOf P ops S p.1 = some p.2 := by
    intro p hp
    obtain ⟨q1, q2, q3, q4⟩ := (p1 p).1 hp
    exact ⟨⟨q1, hD _ q1, q2, fun e he _ hEe => q4 e he hEe⟩, q3⟩
  have hr := I.hr
  rw [hh] at hr
  have hst := I.step
  rw [hh] at hst
  obtain ⟨l1, l2, l3⟩ := layAll_sound (base := base) (w0 := w0) _ hr (fun p hp => by
    obtain ⟨cb, c, hf⟩ := I.pend p.1 p.2 (hL p hp).1 (hL p hp).2
    rw [hh] at hf
    exact ⟨cb, c, hf⟩) (p2.imp_of_mem fun {p q} hp hq hne lp lq h1 h2 => I.diff p.1 q.1 lp lq (hL p hp).1 (hL q hq).1 hne h1 h2)
  refine ⟨step_lay hst l2 fun z => ⟨fun hz => ?_, fun hz => ?_⟩, l1, by rw [← ht]; exact I.tr⟩
  · rcases (l3 z).1 hz with h | ⟨p, hp, rfl⟩
    · exact .inl h
    · obtain ⟨cb, c, hf⟩ := I.pend p.1 p.2 (hL p hp).1 (hL p hp).2
      exact .inr ⟨_, hf.loc, hf.new⟩
  · rcases (l3 z).2 hz with h | ⟨p, hp, rfl⟩
    · exact .inl h
    · obtain ⟨cb, c, hf⟩ := I.pend p.1 p.2 (hL p hp).1 (hL p hp).2
      exact .inr ⟨_, hf.loc, hf.new⟩

theorem getD_set {l : Array Bool} {i : Nat} (hi : i < l.size) (j : Nat) (d : Bool) : (l.setIfInBounds i true).getD j d = if j = i then true else l.getD j d := by
  rw [Array.getD_eq_getD_getElem?, Array.getD_eq_getD_getElem?]
  by_cases e : j = i
  · subst e; simp [hi]
  · rw [Array.getElem?_setIfInBounds_ne (fun h => e h.symm), if_neg e]

theorem any_sound (hx : XOK P) (hN : NOK P) (hG : NG = P.globals.size) {J : Map → Heap → World → Prop} (hC : JC J) (hk : KOK P NG B J k) (C : Canon P k ops base tm0 S val) (hok : ∀ (i : Nat) (o : Oper), ops[i]? = some o → ∀ x, x ∈ o.op.operands → opdOk P x = true)
    (hseen : (S ops.size).effs = [] ∨ ∀ x ∈ (S ops.size).seen, holdsAt P ops x (S ops.size).h (S ops.size).effs = true) {Q : Exit → Act → World → Prop}
    {ρ0 : Map} {h0 : Heap} {w0 : World} {ds : List Deferred} (hJ : J ρ0 h0 w0)
    (hQ : ∀ ρ' w' a', Step base ρ0 h0 w0 ρ' ((S ops.size).h.layAll base (S ops.size).pend) w' → HR NG B ρ' ((S ops.size).h.layAll base (S ops.size).pend) w' → TR ρ' (S ops.size).tm a' → a'.defers = ds → Q .normal a' w') :
    ∀ (fuel : Nat) (listed : Array Bool) (D : Nat → Bool) (a : Act) (w : World) (ρ : Map), listed.size = ops.size → (∀ j d, j < ops.size → listed.getD j d = D j) → (∀ j, ops.size ≤ j → D j = false) → fuel + cntU D ops.size = ops.size →
      (∀ j o, ops[j]? = some o → D j = true → ∀ e ∈ edgesOf o, D e = true) → Inv P ops base tm0 S val NG B ρ0 h0 w0 ds D a w ρ → wpAny P .any ops Q fuel listed a w := by
  -- who is ready
  have hready : ∀ (listed : Array Bool) (D : Nat → Bool), (∀ j d, j < ops.size → listed.getD j d = D j) → ∀ i, i ∈ Region.ready .any ops listed ↔ i < ops.size ∧ D i = false ∧ ∀ o, ops[i]? = some o → ∀ e ∈ edgesOf o, D e = true := by
    intro listed D hl i
    simp only [Region.ready, List.mem_filter, List.mem_range, Bool.and_eq_true, Bool.not_eq_true']
    constructor
    · rintro ⟨h1, h2, h3⟩
      refine ⟨h1, by rw [← hl i true h1]; exact h2, fun o ho e he => ?_⟩
      rw [ho] at h3
      simp only [Option.map_some, Option.getD_some, Array.all_eq_true'] at h3
      obtain ⟨d, hd1, hd2, hd3⟩ := mem_edges.1 he
      have h4 := h3 d hd1
      simp only [hd2, Bool.not_true, Bool.false_or] at h4
      have he2 : e < i := C.edge i o ho e he
      rw [hd3, hl e false (by omega)] at h4
      exact h4
    · rintro ⟨h1, h2, h3⟩
      refine ⟨h1, by rw [hl i true h1]; exact h2, ?_⟩
      obtain ⟨o, ho⟩ := op_at h1
      rw [ho]
      simp only [Option.map_some, Option.getD_some, Array.all_eq_true']
      intro d hd
      cases hb : Region.binds .any d with
      | false => rfl
      | true =>
        have he := mem_edges.2 ⟨d, hd, hb, rfl⟩
        have := C.edge i o ho _ he
        simp only [Bool.not_true, Bool.false_or]
        rw [hl d.on false (by omega)]
        exact h3 o ho _ he
  have hend : ∀ (D : Nat → Bool) (a : Act) (w : World) (ρ : Map), (∀ j, j < ops.size → D j = true) → Inv P ops base tm0 S val NG B ρ0 h0 w0 ds D a w ρ → Q .normal a w := by
    intro D a w ρ hD I
    obtain ⟨q1, q2, q3⟩ := I.last C hD
    exact hQ ρ w a q1 q2 q3 I.defers
  intro fuel
  induction fuel with
  | zero =>
    intro listed D a w ρ hs hl hout hf hcl I
    have hD := cntU_all (D := D) ops.size (by omega)
    refine ⟨?_, hend D a w ρ hD I⟩
    cases hr : Region.ready .any ops listed with
    | nil => rfl
    | cons i l =>
      obtain ⟨h1, h2, _⟩ := (hready listed D hl i).1 (by rw [hr]; simp)
      rw [hD i h1] at h2; cases h2
  | succ fuel ih =>
    intro listed D a w ρ hs hl hout hf hcl I
    refine ⟨fun hr => ?_, fun i hi => ?_⟩
    · refine hend D a w ρ (fun j => ?_) I
      induction j using Nat.strongRecOn with
      | _ j ihj =>
        intro hj
        cases hDj : D j with
        | true => rfl
        | false =>
          have : j ∈ Region.ready .any ops listed := (hready listed D hl j).2 ⟨hj, hDj, fun o ho e he => by
            have := C.edge j o ho e he
            exact ihj e this (by omega)⟩
          rw [hr] at this; cases this
    · obtain ⟨h1, h2, h3⟩ := (hready listed D hl i).1 hi
      obtain ⟨o, ho⟩ := op_at h1
      have hc : Closed ops D i := ⟨hcl, h2, h1, h3⟩
      have hnext : ∀ a' w' ρ', Inv P ops base tm0 S val NG B ρ0 h0 w0 ds (D1 D i) a' w' ρ' → wpAny P .any ops Q fuel (listed.setIfInBounds i true) a' w' := by
        intro a' w' ρ' I'
        refine ih _ (D1 D i) a' w' ρ' (by simpa using hs) (fun j d hj => ?_) (fun j hj => ?_) ?_ (fun j oj hoj hDj e he => ?_) I'
        · rw [getD_set (by omega)]
          unfold D1
          rw [hl j d hj]
        · unfold D1; rw [if_neg (by omega)]; exact hout j hj
        · rw [cntU_D1 h2, if_pos h1]; omega
        · unfold D1 at hDj ⊢
          split
          · rfl
          · split at hDj
            · rename_i hji
              subst hji
              rw [ho] at hoj; cases hoj
              exact h3 o ho e he
            · exact hcl j oj hoj hDj e he
      unfold wpOp
      simp only [ho]
      rw [I.tr.wanted, wanted_same C hc ho]
      have hev := I.ev C hG hc ho (hok i o ho)
      rcases (C.step i o ho).how with ⟨g1, g2, _⟩ | ⟨g1, g2, g3, _⟩ | ⟨g1, g2, g3, n, g4, g5, _⟩ | ⟨g1, g2, g3, g4, _⟩
      · rw [if_neg (by simp [g1])]
        refine hnext _ _ ρ (I.still C hc ho (by simp [isE, ho, g1]) (by simp [isF, ho, g1]) ?_)
        rw [g2]; exact VR.undef _
      · rw [if_pos g1]
        refine .inl ?_
        have hq : quiet P o (ev (S i).tm) (HD P ops S D) = some (val i) := by
          cases hlk : looks o with
          | false => rw [quiet_blind hlk _ _ (S i).h]; exact g3
          | true =>
            rcases hseen with he | hs
            · have hnoE : ∀ e, e < ops.size → isE P ops S e = false := by
                rcases C.effs_at ops.size (Nat.le_refl _) with ⟨_, h⟩ | ⟨j, _, _, _, h⟩
                · exact h
                · rw [he] at h; cases h
              have e1 : HD P ops S D = (S i).h := by
                rw [C.h_at i (by omega)]
                have n1 : lastOf (isE P ops S) i = none := by
                  cases hl : lastOf (isE P ops S) i with
                  | none => rfl
                  | some e => obtain ⟨f1, f2, _⟩ := lastOf_some hl; rw [hnoE e (by omega)] at f2; cases f2
                have n2 : lastOf (fun j => D j && isE P ops S j) ops.size = none := by
                  cases hl : lastOf (fun j => D j && isE P ops S j) ops.size with
                  | none => rfl
                  | some e =>
                    obtain ⟨f1, f2, _⟩ := lastOf_some hl
                    simp only [Bool.and_eq_true] at f2
                    rw [hnoE e f1] at f2; cases f2.2
                unfold HD
                rw [n1, n2]
              rw [e1]; exact g3
            · have hm := seen_mem C ho g1 g2 hlk ops.size (Nat.le_refl _) h1
              exact holds_at C hc ⟨i, o, (S i).tm, val i⟩ rfl ops.size (Nat.le_refl _) (fun e he _ _ => he) (hs _ hm)
        obtain ⟨v', r1, r2⟩ := quiet_sound I.hr hq hev
        unfold Oper.wp
        rw [r1]
        exact hnext _ _ ρ (I.still C hc ho (by simp [isE, ho, g2]) (by simp [isF, ho, g2, g1, show isFresh o = false by
          cases hfo : isFresh o with
          | false => rfl
          | true =>
            exfalso
            unfold isFresh at hfo
            unfold isQuiet at g2
            split at hfo <;> simp_all]) r2)
      · rw [if_pos g1]
        refine .inl ?_
        obtain ⟨c, r1, r2, r3⟩ := fresh_sound (w := w) g4 hev
        unfold Oper.wp
        rw [r1]
        exact hnext _ _ _ (I.fresh C hc ho (by simp [isF, ho, g1, g2, g3]) (by simp [newOf, ho, g4]) g5 r2 r3)
      · rw [if_pos g1]
        refine .inl ?_
        obtain ⟨H, r1, r2, rs, r3⟩ := I.effect C hc ho (by simp [isE, ho, g1, g2, g3])
        exact effect_sound hx hN hk r2 (hC _ _ _ _ _ _ _ rs hJ) r1 hev _ _ fun ρ' w' v' s1 s2 s3 => hnext _ _ ρ' (r3 ρ' w' v' s1 s2 s3)

theorem drawn_sound (hm : P.follows .mixedOrders = true) (hx : XOK P) (hN : NOK P) (hG : NG = P.globals.size) {J : Map → Heap → World → Prop} (hC : JC J) (hk : KOK P NG B J k) {Q : Exit → Act → World → Prop} {id : Nat} {tm tm' : Tm} {h h' : Heap} {ρ : Map} {w : World} {a : Act}
    (hr : runDrawn P k ops tm h = some (tm', h')) (hok : opsOk P ops = true) (hh : HR NG B ρ h w) (hJ : J ρ h w) (ht : TR ρ tm a)
    (hQ : ∀ ρ' w' a', Step h.next ρ h w ρ' h' w' → HR NG B ρ' h' w' → TR ρ' tm' a' → a'.defers = a.defers → Q .normal a' w') : (Code.region id ops true).wp P Q a w := by
  unfold runDrawn at hr
  split at hr
  · rename_i hord
    split at hr
    · rename_i r hrun
      split at hr
      · rename_i hsn
        simp only [Option.some.injEq, Prod.mk.injEq] at hr
        obtain ⟨rfl, rfl⟩ := hr
        obtain ⟨S, val, t1, t2, t3⟩ := trace_of ops.toList 0 _ _ (by simp) hrun
        have hall := okAll_at ops.toList 0 hord (by simp)
        have C : Canon P k ops h.next tm S val := {
          tm := by rw [t1]
          pend := by rw [t1]
          effs := by rw [t1]
          seen := by rw [t1]
          step := fun j o ho => t3 j o (by omega) (by have := size_of ho; simpa using this) ho
          edge := fun j o ho => (hall j o (by omega) ho).1
          pair := fun t ot i oi hit hot hoi => (hall t ot (by omega) hot).2 i oi hit hoi }
        have t2 : S ops.size = r := by simpa using t2
        have hh1 : HR NG B ρ { h with next := h.next + ops.size } w := hh.weaken (by simp) (fun z o hz => .inl hz) (fun z b _ hm => hm)
        have hS0 : (S 0).h = { h with next := h.next + ops.size } := by rw [t1]
        have hHD : HD P ops S (fun _ => false) = { h with next := h.next + ops.size } := by
          have : lastOf (fun j => false && isE P ops S j) ops.size = none := by
            cases hl : lastOf (fun j => false && isE P ops S j) ops.size with
            | none => rfl
            | some e => obtain ⟨_, f2, _⟩ := lastOf_some hl; simp at f2
          unfold HD
          rw [this, hS0]
        refine wp_region_any hm ?_
        refine any_sound (base := h.next) (ρ0 := ρ) (h0 := h) (w0 := w) (ds := a.defers) hx hN hG hC hk C (fun i o ho x hx' => ?_) ?_ hJ ?_ ops.size _ (fun _ => false) a _ ρ (by simp) (fun j d hj => ?_) (fun _ _ => rfl) ?_ (fun j o _ hD => by cases hD) ?_
        · have h1 := List.all_eq_true.1 hok o (List.mem_of_getElem? (by simpa using ho))
          exact List.all_eq_true.1 h1 x (by simpa using hx')
        · rw [t2]
          simp only [Bool.or_eq_true, List.isEmpty_iff, List.all_eq_true] at hsn
          exact hsn
        · rw [t2]; exact hQ
        · rw [Array.getD_eq_getD_getElem?]; simp [hj]
        · have : ∀ n, cntU (fun _ => false) n = 0 := by
            intro n; induction n with
            | zero => rfl
            | succ n ih => simp [cntU, ih]
          rw [this]; rfl
        · have htm : tmD ops tm val (fun _ => false) = tm := by
            apply List.ext_getElem?
            intro t
            by_cases e : t < tm.length
            · simp only [tmD, List.getElem?_map, List.getElem?_range e, Option.map_some]
              unfold tmAt
              have : lastOf (fun j => false && dstIs ops t j) ops.size = none := by
                cases hl : lastOf (fun j => false && dstIs ops t j) ops.size with
                | none => rfl
                | some e => obtain ⟨_, f2, _⟩ := lastOf_some hl; simp at f2
              rw [this]
              simp only [getT_eq, List.getD_eq_getElem?_getD]
              rw [List.getElem?_eq_getElem e]; rfl
            · rw [List.getElem?_eq_none (by simp [tmD]; omega), List.getElem?_eq_none (by omega)]
          exact {
            step := by
              rw [hHD]
              exact .same (by simp) (fun _ => ⟨fun h => h, fun h => h⟩) rfl rfl rfl (Nat.le_refl _) (fun _ _ _ => rfl)
            hr := by rw [hHD]; exact hh1.drawn _
            tr := by rw [htm]; exact ht
            defers := rfl
            free := fun i _ _ => hh.none_next (by omega)
            room := by rw [hHD]; exact Nat.le_refl _
            pend := fun i nn hp => by cases hp.2.1
            diff := fun i j li lj hp => by cases hp.2.1 }
      · cases hr
    · cases hr
  · cases hr
end
end Go.AX
