/- A part of the proof that rubriclaw22.PathRead returns true for every text. -/
import Derived.Test.YtgaefkhmibhhoaaGreatDoorAxDrawn
set_option linter.unusedSimpArgs false
set_option linter.unusedVariables false
namespace Go.AX
open Go

structure Canon (P : Program) (k : Caller) (ops : Array Oper) (base : Nat) (tm0 : Tm) (S : Nat → Ran) (val : Nat → Value) : Prop where
  tm : (S 0).tm = tm0
  pend : (S 0).pend = []
  effs : (S 0).effs = []
  seen : (S 0).seen = []
  step : ∀ j o, ops[j]? = some o → StepF P k ops base j o (S j) (S (j + 1)) (val j)
  edge : ∀ j o, ops[j]? = some o → ∀ e ∈ edgesOf o, e < j
  pair : ∀ t ot i oi, i < t → ops[t]? = some ot → ops[i]? = some oi → okPair P ops i oi t ot = true

section
variable (P : Program) (ops : Array Oper) (S : Nat → Ran)
def isE (j : Nat) : Bool := (ops[j]?).any fun o => wantedT ops o (S j).tm && !isQuiet P o && !isFresh o
def isF (j : Nat) : Bool := (ops[j]?).any fun o => wantedT ops o (S j).tm && !isQuiet P o && isFresh o
def newOf (j : Nat) : Option New := (ops[j]?).bind fun o => fresh P o (ev (S j).tm)
def dstIs (t j : Nat) : Bool := ((ops[j]?).bind (·.dst)) == some t
abbrev Ah (i j : Nat) : Bool := ahead ops ops.size i j
variable (tm0 : Tm) (val : Nat → Value)
def tmAt (D : Nat → Bool) (t : Nat) : Value := match lastOf (fun j => D j && dstIs ops t j) ops.size with | some j => val j | none => getT tm0 t
def tmD (D : Nat → Bool) : Tm := (List.range tm0.length).map (tmAt ops tm0 val D)
def HD (D : Nat → Bool) : Heap := match lastOf (fun j => D j && isE P ops S j) ops.size with | some e => (S (e + 1)).h | none => (S 0).h
def PendD (D : Nat → Bool) (i : Nat) : Prop := i < ops.size ∧ D i = true ∧ isF P ops S i = true ∧ ∀ e, e < ops.size → D e = true → isE P ops S e = true → Ah ops i e = false
end

section
variable {P : Program} {k : Caller} {ops : Array Oper} {base : Nat} {tm0 : Tm} {S : Nat → Ran} {val : Nat → Value}

theorem size_of {j : Nat} {o : Oper} (h : ops[j]? = some o) : j < ops.size := (Array.getElem?_eq_some_iff.1 h).1
theorem op_at {j : Nat} (h : j < ops.size) : ∃ o, ops[j]? = some o := ⟨ops[j], by simp [h]⟩

theorem Canon.tm_len (C : Canon P k ops base tm0 S val) : ∀ m, m ≤ ops.size → (S m).tm.length = tm0.length := by
  intro m
  induction m with
  | zero => intro _; rw [C.tm]
  | succ m ih =>
    intro hm
    obtain ⟨o, ho⟩ := op_at (show m < ops.size by omega)
    rw [(C.step m o ho).tm]
    cases o.dst with
    | none => exact ih (by omega)
    | some d => simp only [putT, setT_eq, List.length_set]; exact ih (by omega)

theorem Canon.tm_at (C : Canon P k ops base tm0 S val) : ∀ m, m ≤ ops.size → ∀ t, t < tm0.length → getT (S m).tm t = match lastOf (dstIs ops t) m with | some j => val j | none => getT tm0 t := by
  intro m
  induction m with
  | zero => intro _ t _; rw [C.tm]; rfl
  | succ m ih =>
    intro hm t ht
    obtain ⟨o, ho⟩ := op_at (show m < ops.size by omega)
    have hlen := C.tm_len m (by omega)
    rw [(C.step m o ho).tm]
    simp only [lastOf, dstIs, ho, Option.bind_some]
    have ih := ih (by omega) t ht
    cases hd : o.dst with
    | none =>
      simp only [putT]
      rw [if_neg (by simp), ih]
    | some d =>
      simp only [putT, setT_eq, getT_eq]
      by_cases e : d = t
      · subst e
        rw [if_pos (by simp)]
        simp [List.getD_eq_getElem?_getD, hlen, ht]
      · rw [if_neg (by simp [e])]
        rw [getT_eq] at ih
        rw [List.getD_eq_getElem?_getD, List.getElem?_set_ne e, ← List.getD_eq_getElem?_getD, ih]
        simp only [getT_eq]

theorem isE_step (C : Canon P k ops base tm0 S val) {j : Nat} {o : Oper} (ho : ops[j]? = some o) (h : isE P ops S j = true) :
    wantedT ops o (S j).tm = true ∧ isQuiet P o = false ∧ isFresh o = false ∧ effect P k o (ev (S j).tm) ((S j).h.layAll base ((S j).pend.filter fun x => ahead ops ops.size x.1 j)) = some (val j, (S (j + 1)).h) ∧
      (S (j + 1)).pend = ((S j).pend.filter fun x => !ahead ops ops.size x.1 j) ∧ (S (j + 1)).effs = (j, (S j).h) :: (S j).effs := by
  simp only [isE, ho, Option.any_some, Bool.and_eq_true, Bool.not_eq_true'] at h
  obtain ⟨⟨h1, h2⟩, h3⟩ := h
  rcases (C.step j o ho).how with ⟨g1, _⟩ | ⟨_, g2, _⟩ | ⟨_, _, g3, _⟩ | ⟨g1, g2, g3, g4, g5, g6, _⟩
  · rw [h1] at g1; cases g1
  · rw [h2] at g2; cases g2
  · rw [h3] at g3; cases g3
  · exact ⟨g1, g2, g3, g4, g5, g6⟩
theorem notE_step (C : Canon P k ops base tm0 S val) {j : Nat} {o : Oper} (ho : ops[j]? = some o) (h : isE P ops S j = false) : (S (j + 1)).h = (S j).h ∧ (S (j + 1)).effs = (S j).effs := by
  rcases (C.step j o ho).how with ⟨_, _, g3, _, g5, _⟩ | ⟨_, _, _, g3, _, g5, _⟩ | ⟨_, _, _, _, _, _, g3, _, g5, _⟩ | ⟨g1, g2, g3, _⟩
  · exact ⟨g3, g5⟩
  · exact ⟨g3, g5⟩
  · exact ⟨g3, g5⟩
  · simp [isE, ho, g1, g2, g3] at h
theorem isF_step (C : Canon P k ops base tm0 S val) {j : Nat} {o : Oper} (ho : ops[j]? = some o) (h : isF P ops S j = true) :
    wantedT ops o (S j).tm = true ∧ isQuiet P o = false ∧ isFresh o = true ∧ ∃ n, fresh P o (ev (S j).tm) = some n ∧ newOf P ops S j = some n ∧ val j = n.at (base + j) ∧ (S (j + 1)).pend = (j, n) :: (S j).pend := by
  simp only [isF, ho, Option.any_some, Bool.and_eq_true, Bool.not_eq_true'] at h
  obtain ⟨⟨h1, h2⟩, h3⟩ := h
  rcases (C.step j o ho).how with ⟨g1, _⟩ | ⟨_, g2, _⟩ | ⟨g1, g2, g3, n, g4, g5, _, g6, _⟩ | ⟨_, _, g3, _⟩
  · rw [h1] at g1; cases g1
  · rw [h2] at g2; cases g2
  · exact ⟨g1, g2, g3, n, g4, by simp [newOf, ho, g4], g5, g6⟩
  · rw [h3] at g3; cases g3
theorem notEF_step (C : Canon P k ops base tm0 S val) {j : Nat} {o : Oper} (ho : ops[j]? = some o) (h : isE P ops S j = false) (h' : isF P ops S j = false) : (S (j + 1)).pend = (S j).pend := by
  rcases (C.step j o ho).how with ⟨_, _, _, g4, _⟩ | ⟨_, _, _, _, g4, _⟩ | ⟨g1, g2, g3, _⟩ | ⟨g1, g2, g3, _⟩
  · exact g4
  · exact g4
  · simp [isF, ho, g1, g2, g3] at h'
  · simp [isE, ho, g1, g2, g3] at h
theorem E_notF {j : Nat} (h : isE P ops S j = true) : isF P ops S j = false := by
  unfold isE at h
  unfold isF
  cases ho : ops[j]? with
  | none => rfl
  | some o =>
    simp only [ho, Option.any_some, Bool.and_eq_true, Bool.not_eq_true'] at h
    simp [h.2]

theorem Canon.h_at (C : Canon P k ops base tm0 S val) : ∀ m, m ≤ ops.size → (S m).h = match lastOf (isE P ops S) m with | some e => (S (e + 1)).h | none => (S 0).h := by
  intro m
  induction m with
  | zero => intro _; rfl
  | succ m ih =>
    intro hm
    obtain ⟨o, ho⟩ := op_at (show m < ops.size by omega)
    simp only [lastOf]
    cases hE : isE P ops S m with
    | true => rfl
    | false =>
      simp only [Bool.false_eq_true, if_false]
      rw [(notE_step C ho hE).1]
      exact ih (by omega)

theorem Canon.pend_at (C : Canon P k ops base tm0 S val) : ∀ m, m ≤ ops.size → (∀ p : Nat × New, p ∈ (S m).pend ↔ p.1 < m ∧ isF P ops S p.1 = true ∧ newOf P ops S p.1 = some p.2 ∧ ∀ e, e < m → isE P ops S e = true → Ah ops p.1 e = false) ∧
    (S m).pend.Pairwise (fun p q => p.1 ≠ q.1) := by
  intro m
  induction m with
  | zero => intro _; rw [C.pend]; exact ⟨fun p => by simp, .nil⟩
  | succ m ih =>
    intro hm
    obtain ⟨o, ho⟩ := op_at (show m < ops.size by omega)
    obtain ⟨ih1, ih2⟩ := ih (by omega)
    have hlt := ahead_lt C.edge ops.size
    cases hE : isE P ops S m with
    | true =>
      obtain ⟨_, _, _, _, g5, _⟩ := isE_step C ho hE
      rw [g5]
      refine ⟨fun p => ?_, ih2.filter _⟩
      rw [List.mem_filter, ih1]
      have hFm := E_notF hE
      constructor
      · rintro ⟨⟨h1, h2, h3, h4⟩, h5⟩
        refine ⟨by omega, h2, h3, fun e he hEe => ?_⟩
        by_cases e1 : e = m
        · subst e1; simpa using h5
        · exact h4 e (by omega) hEe
      · rintro ⟨h1, h2, h3, h4⟩
        have : p.1 ≠ m := fun e => by rw [e, hFm] at h2; cases h2
        exact ⟨⟨by omega, h2, h3, fun e he hEe => h4 e (by omega) hEe⟩, by have := h4 m (by omega) hE; simpa using this⟩
    | false =>
      cases hF : isF P ops S m with
      | true =>
        obtain ⟨_, _, _, n, _, g5, _, g7⟩ := isF_step C ho hF
        rw [g7]
        refine ⟨fun p => ?_, List.pairwise_cons.2 ⟨fun q hq => ?_, ih2⟩⟩
        · rw [List.mem_cons, ih1]
          constructor
          · rintro (rfl | ⟨h1, h2, h3, h4⟩)
            · refine ⟨by simp, hF, g5, fun e he hEe => ?_⟩
              cases hA : Ah ops m e with
              | false => rfl
              | true => have := hlt m e hA; omega
            · refine ⟨by omega, h2, h3, fun e he hEe => ?_⟩
              by_cases e1 : e = m
              · subst e1; rw [hE] at hEe; cases hEe
              · exact h4 e (by omega) hEe
          · rintro ⟨h1, h2, h3, h4⟩
            by_cases e : p.1 = m
            · left
              obtain ⟨i, nn⟩ := p
              simp only at e h3
              subst e
              rw [g5] at h3; cases h3
              rfl
            · exact .inr ⟨by omega, h2, h3, fun e he hEe => h4 e (by omega) hEe⟩
        · have := ((ih1 q).1 hq).1
          simp only; omega
      | false =>
        rw [notEF_step C ho hE hF]
        refine ⟨fun p => ?_, ih2⟩
        rw [ih1]
        constructor
        · rintro ⟨h1, h2, h3, h4⟩
          refine ⟨by omega, h2, h3, fun e he hEe => ?_⟩
          by_cases e1 : e = m
          · subst e1; rw [hE] at hEe; cases hEe
          · exact h4 e (by omega) hEe
        · rintro ⟨h1, h2, h3, h4⟩
          have : p.1 ≠ m := fun e => by rw [e, hF] at h2; cases h2
          exact ⟨by omega, h2, h3, fun e he hEe => h4 e (by omega) hEe⟩

/-- What the list of effects tells. -/
theorem Canon.effs_at (C : Canon P k ops base tm0 S val) : ∀ m, m ≤ ops.size → ((S m).effs = [] ∧ ∀ e, e < m → isE P ops S e = false) ∨
    ∃ j, j < m ∧ isE P ops S j = true ∧ (∀ e, j < e → e < m → isE P ops S e = false) ∧ (S m).effs = (j, (S j).h) :: (S j).effs := by
  intro m
  induction m with
  | zero => intro _; exact .inl ⟨C.effs, fun e he => by omega⟩
  | succ m ih =>
    intro hm
    obtain ⟨o, ho⟩ := op_at (show m < ops.size by omega)
    cases hE : isE P ops S m with
    | true =>
      obtain ⟨_, _, _, _, _, g6⟩ := isE_step C ho hE
      exact .inr ⟨m, by omega, hE, fun e h1 h2 => by omega, g6⟩
    | false =>
      rw [(notE_step C ho hE).2]
      rcases ih (by omega) with ⟨h1, h2⟩ | ⟨j, h1, h2, h3, h4⟩
      · refine .inl ⟨h1, fun e he => ?_⟩
        by_cases e1 : e = m
        · subst e1; exact hE
        · exact h2 e (by omega)
      · refine .inr ⟨j, by omega, h2, fun e he1 he2 => ?_, h4⟩
        by_cases e1 : e = m
        · subst e1; exact hE
        · exact h3 e he1 (by omega)

/-! ### a set of operations that are done -/
structure Closed (ops : Array Oper) (D : Nat → Bool) (i : Nat) : Prop where
  closed : ∀ j o, ops[j]? = some o → D j = true → ∀ e ∈ edgesOf o, D e = true
  out : D i = false
  here : i < ops.size
  edges : ∀ o, ops[i]? = some o → ∀ e ∈ edgesOf o, D e = true

theorem Closed.of_ahead {D : Nat → Bool} {i j : Nat} (hc : Closed ops D i) (h : Ah ops j i = true) : D j = true := by
  unfold Ah at h
  have hpos : ∃ f, ops.size = f + 1 := ⟨ops.size - 1, by have := hc.here; omega⟩
  obtain ⟨f, hf⟩ := hpos
  have : ∀ f, ahead ops (f + 1) j i = true → D j = true := by
    intro f h
    unfold ahead at h
    split at h
    · cases h
    · rename_i o ho
      obtain ⟨e, he1, he2⟩ := List.any_eq_true.1 h
      have hDe := hc.edges o ho e he1
      simp only [Bool.or_eq_true] at he2
      rcases he2 with he2 | he2
      · rw [← Nat.eq_of_beq_eq_true he2]; exact hDe
      · exact ahead_closed hc.closed f j e he2 hDe
  rw [hf] at h
  exact this f h
theorem Closed.not_behind {D : Nat → Bool} {i j : Nat} (hc : Closed ops D i) (hj : D j = true) : Ah ops i j = false := by
  cases h : Ah ops i j with
  | false => rfl
  | true => have := ahead_closed hc.closed ops.size i j h hj; rw [hc.out] at this; cases this

/-- Who writes what an operation looks at has written it just where it stands ahead of it. -/
theorem writer_iff (C : Canon P k ops base tm0 S val) {D : Nat → Bool} {i : Nat} {o : Oper} (hc : Closed ops D i) (ho : ops[i]? = some o) {t : Nat} (ht : t ∈ o.looksAt ops) (j : Nat) :
    (j < ops.size ∧ (D j && dstIs ops t j) = true) ↔ (j < i ∧ dstIs ops t j = true) := by
  have hi := hc.here
  constructor
  · rintro ⟨h1, h2⟩
    simp only [Bool.and_eq_true] at h2
    refine ⟨?_, h2.2⟩
    rcases Nat.lt_trichotomy j i with e | e | e
    · exact e
    · subst e; rw [hc.out] at h2; cases h2.1
    · obtain ⟨oj, hoj⟩ := op_at h1
      have hp := C.pair j oj i o e hoj ho
      unfold okPair at hp
      simp only [Bool.or_eq_true, Bool.and_eq_true] at hp
      rcases hp with hp | ⟨hp, _⟩
      · have := hc.not_behind h2.1
        unfold Ah at this
        rw [hp] at this; cases this
      · obtain ⟨_, _, h3⟩ := Oper.apart_spec hp
        have hd : oj.dst = some t := by have := h2.2; simpa [dstIs, hoj] using this
        exact absurd ht (h3 t hd)
  · rintro ⟨h1, h2⟩
    refine ⟨by omega, ?_⟩
    simp only [Bool.and_eq_true]
    refine ⟨?_, h2⟩
    obtain ⟨oj, hoj⟩ := op_at (show j < ops.size by omega)
    have hp := C.pair i o j oj h1 ho hoj
    unfold okPair at hp
    simp only [Bool.or_eq_true, Bool.and_eq_true] at hp
    rcases hp with hp | ⟨hp, _⟩
    · exact hc.of_ahead hp
    · obtain ⟨h3, _, _⟩ := Oper.apart_spec hp
      have hd : oj.dst = some t := by simpa [dstIs, hoj] using h2
      exact absurd ht (h3 t hd)

theorem getT_tmD (D : Nat → Bool) (t : Nat) : getT (tmD ops tm0 val D) t = if t < tm0.length then tmAt ops tm0 val D t else undef := by
  rw [getT_eq, List.getD_eq_getElem?_getD, tmD, List.getElem?_map]
  by_cases h : t < tm0.length
  · rw [if_pos h, List.getElem?_range h]; rfl
  · rw [if_neg h, List.getElem?_eq_none (by simp; omega)]; rfl

theorem looks_same (C : Canon P k ops base tm0 S val) {D : Nat → Bool} {i : Nat} {o : Oper} (hc : Closed ops D i) (ho : ops[i]? = some o) {t : Nat} (ht : t ∈ o.looksAt ops) : getT (tmD ops tm0 val D) t = getT (S i).tm t := by
  rw [getT_tmD]
  by_cases h : t < tm0.length
  · rw [if_pos h, C.tm_at i (by have := hc.here; omega) t h]
    unfold tmAt
    rw [lastOf_eq (writer_iff C hc ho ht)]
  · rw [if_neg h, getT_eq, List.getD_eq_getElem?_getD, List.getElem?_eq_none (by rw [C.tm_len i (by have := hc.here; omega)]; omega)]; rfl

theorem ev_same (C : Canon P k ops base tm0 S val) {D : Nat → Bool} {i : Nat} {o : Oper} (hc : Closed ops D i) (ho : ops[i]? = some o) {x : Operand} (hx : x ∈ o.op.operands) : ev (tmD ops tm0 val D) x = ev (S i).tm x := by
  cases x with
  | tmp t =>
    refine looks_same C hc ho ?_
    simp only [Oper.looksAt, List.mem_append, List.mem_filterMap]
    exact .inl ⟨.tmp t, by simpa using hx, rfl⟩
  | _ => rfl
theorem wanted_same (C : Canon P k ops base tm0 S val) {D : Nat → Bool} {i : Nat} {o : Oper} (hc : Closed ops D i) (ho : ops[i]? = some o) : wantedT ops o (tmD ops tm0 val D) = wantedT ops o (S i).tm := by
  unfold wantedT
  cases hg : o.guard with
  | none => rfl
  | some g =>
    obtain ⟨j, want⟩ := g
    simp only
    cases hd : (ops[j]?).bind (·.dst) with
    | none => rfl
    | some d =>
      have := looks_same C hc ho (t := d) (by simp [Oper.looksAt, hg, hd])
      simp only [guardVal, this]

def D1 (D : Nat → Bool) (i : Nat) : Nat → Bool := fun j => if j = i then true else D j

theorem tmD_put (C : Canon P k ops base tm0 S val) {D : Nat → Bool} {i : Nat} {o : Oper} (hc : Closed ops D i) (ho : ops[i]? = some o) : tmD ops tm0 val (D1 D i) = putT (tmD ops tm0 val D) o.dst (val i) := by
  have key : ∀ t, o.dst ≠ some t → tmAt ops tm0 val (D1 D i) t = tmAt ops tm0 val D t := by
    intro t hne
    unfold tmAt
    rw [lastOf_eq (q := fun j => D j && dstIs ops t j) (n := ops.size) fun j => ?_]
    by_cases e : j = i
    · subst e
      simp [D1, dstIs, ho, hne]
    · simp [D1, e]
  cases hd : o.dst with
  | none =>
    simp only [putT, tmD]
    exact List.map_congr_left fun t _ => key t (by rw [hd]; simp)
  | some d =>
    simp only [putT, setT_eq]
    apply List.ext_getElem?
    intro t
    rw [List.getElem?_set]
    simp only [tmD, List.length_map, List.length_range, List.getElem?_map]
    by_cases e : d = t
    · subst e
      rw [if_pos rfl]
      by_cases hl : d < tm0.length
      · rw [if_pos hl, List.getElem?_range hl]
        simp only [Option.map_some]
        congr 1
        unfold tmAt
        have hlast : lastOf (fun j => D1 D i j && dstIs ops d j) ops.size = some i := by
          refine lastOf_is hc.here (by simp [D1, dstIs, ho, hd]) fun t h1 h2 => ?_
          obtain ⟨ot, hot⟩ := op_at h2
          have hp := C.pair t ot i o h1 hot ho
          unfold okPair at hp
          simp only [Bool.or_eq_true, Bool.and_eq_true] at hp
          have hne : t ≠ i := by omega
          simp only [D1, hne, if_false, Bool.and_eq_false_iff]
          rcases hp with hp | ⟨hp, _⟩
          · left
            cases hD : D t with
            | false => rfl
            | true =>
              have := hc.not_behind hD
              unfold Ah at this
              rw [hp] at this; cases this
          · right
            obtain ⟨_, h3, _⟩ := Oper.apart_spec hp
            have := h3 d hd
            simp [dstIs, hot, this]
        rw [hlast]
      · have hle : (List.range tm0.length).length ≤ d := by rw [List.length_range]; exact Nat.le_of_not_lt hl
        rw [if_neg hl, List.getElem?_eq_none hle]; rfl
    · rw [if_neg e]
      by_cases hl : t < tm0.length
      · rw [List.getElem?_range hl]
        simp only [Option.map_some]
        rw [key t (by rw [hd]; simpa using e)]
      · have hle : (List.range tm0.length).length ≤ t := by rw [List.length_range]; omega
        rw [List.getElem?_eq_none hle]
        rfl
end
end Go.AX
