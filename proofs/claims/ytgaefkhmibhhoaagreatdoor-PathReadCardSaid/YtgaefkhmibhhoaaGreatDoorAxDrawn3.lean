/- A part of the proof that rubriclaw22.PathRead returns true for every text. -/
import Derived.Test.YtgaefkhmibhhoaaGreatDoorAxDrawn2
set_option linter.unusedSimpArgs false
set_option linter.unusedVariables false
namespace Go.AX
open Go
section
variable {P : Program} {k : Caller} {ops : Array Oper} {base : Nat} {tm0 : Tm} {S : Nat → Ran} {val : Nat → Value} {NG B : Nat}

theorem HD_E (C : Canon P k ops base tm0 S val) {D : Nat → Bool} {i : Nat} (hc : Closed ops D i) (hE : isE P ops S i = true) : HD P ops S D = (S i).h := by
  have hi := hc.here
  rw [C.h_at i (by omega)]
  unfold HD
  rw [lastOf_eq (q := isE P ops S) (n := i) fun j => ?_]
  obtain ⟨o, ho⟩ := op_at hi
  obtain ⟨_, g2, g3, _⟩ := isE_step C ho hE
  constructor
  · rintro ⟨h1, h2⟩
    simp only [Bool.and_eq_true] at h2
    refine ⟨?_, h2.2⟩
    rcases Nat.lt_trichotomy j i with e | e | e
    · exact e
    · subst e; rw [hc.out] at h2; cases h2.1
    · obtain ⟨oj, hoj⟩ := op_at h1
      obtain ⟨_, f2, f3, _⟩ := isE_step C hoj h2.2
      have hp := C.pair j oj i o e hoj ho
      simp only [okPair, g2, g3, f2, f3, Bool.or_false, Bool.and_false] at hp
      have := hc.not_behind h2.1
      unfold Ah at this
      rw [hp] at this; cases this
  · rintro ⟨h1, h2⟩
    refine ⟨by omega, ?_⟩
    obtain ⟨oj, hoj⟩ := op_at (show j < ops.size by omega)
    obtain ⟨_, f2, f3, _⟩ := isE_step C hoj h2
    have hp := C.pair i o j oj h1 ho hoj
    simp only [okPair, g2, g3, f2, f3, Bool.or_false, Bool.and_false] at hp
    simp only [h2, Bool.and_true]
    exact hc.of_ahead hp

theorem HD_E1 (C : Canon P k ops base tm0 S val) {D : Nat → Bool} {i : Nat} (hc : Closed ops D i) (hE : isE P ops S i = true) : HD P ops S (D1 D i) = (S (i + 1)).h := by
  unfold HD
  have : lastOf (fun j => D1 D i j && isE P ops S j) ops.size = some i := by
    refine lastOf_is hc.here (by simp [D1, hE]) fun t h1 h2 => ?_
    have hne : t ≠ i := by omega
    simp only [D1, hne, if_false, Bool.and_eq_false_iff]
    cases hEt : isE P ops S t with
    | false => exact .inr rfl
    | true =>
      left
      obtain ⟨o, ho⟩ := op_at hc.here
      obtain ⟨ot, hot⟩ := op_at h2
      obtain ⟨_, g2, g3, _⟩ := isE_step C ho hE
      obtain ⟨_, f2, f3, _⟩ := isE_step C hot hEt
      have hp := C.pair t ot i o h1 hot ho
      simp only [okPair, g2, g3, f2, f3, Bool.or_false, Bool.and_false] at hp
      cases hD : D t with
      | false => rfl
      | true =>
        have := hc.not_behind hD
        unfold Ah at this
        rw [hp] at this; cases this
  rw [this]
theorem HD_notE {D : Nat → Bool} {i : Nat} (hE : isE P ops S i = false) : HD P ops S (D1 D i) = HD P ops S D := by
  unfold HD
  rw [lastOf_eq (q := fun j => D j && isE P ops S j) (n := ops.size) fun j => ?_]
  by_cases e : j = i
  · subst e; simp [hE]
  · simp [D1, e]

/-- What was looked at reads so at every heap that there may be. -/
theorem holds_at (C : Canon P k ops base tm0 S val) {D : Nat → Bool} {i : Nat} (hc : Closed ops D i) (x : Seen) (hxi : x.i = i) : ∀ m, m ≤ ops.size → (∀ e, e < ops.size → D e = true → isE P ops S e = true → e < m) →
    holdsAt P ops x (S m).h (S m).effs = true → quiet P x.o (ev x.tm) (HD P ops S D) = some x.v := by
  have hone : ∀ h, holdsAt.holds1 P x h = true → quiet P x.o (ev x.tm) h = some x.v := by
    intro h hh
    unfold holdsAt.holds1 at hh
    split at hh
    · rename_i v hv
      rw [hv, sameV_eq hh]
    · cases hh
  intro m
  induction m using Nat.strongRecOn with
  | _ m ih =>
    intro hm hD hh
    rcases C.effs_at m hm with ⟨h1, h2⟩ | ⟨j, h1, h2, h3, h4⟩
    · rw [h1] at hh
      have e1 : HD P ops S D = (S m).h := by
        rw [C.h_at m hm]
        have n1 : lastOf (isE P ops S) m = none := by
          cases hl : lastOf (isE P ops S) m with
          | none => rfl
          | some e => obtain ⟨f1, f2, _⟩ := lastOf_some hl; rw [h2 e f1] at f2; cases f2
        have n2 : lastOf (fun j => D j && isE P ops S j) ops.size = none := by
          cases hl : lastOf (fun j => D j && isE P ops S j) ops.size with
          | none => rfl
          | some e =>
            obtain ⟨f1, f2, _⟩ := lastOf_some hl
            simp only [Bool.and_eq_true] at f2
            have := hD e f1 f2.1 f2.2
            rw [h2 e this] at f2; cases f2.2
        unfold HD
        rw [n1, n2]
      rw [e1]
      exact hone _ hh
    · rw [h4] at hh
      simp only [holdsAt, Bool.and_eq_true, Bool.or_eq_true] at hh
      obtain ⟨hh1, hh2⟩ := hh
      rw [hxi] at hh1 hh2
      cases hDj : D j with
      | true =>
        have e1 : HD P ops S D = (S m).h := by
          rw [C.h_at m hm, lastOf_is h1 h2 h3]
          unfold HD
          rw [lastOf_is (p := fun j => D j && isE P ops S j) (j := j) (by omega) (by simp [hDj, h2]) (fun t ht1 ht2 => ?_)]
          cases hDt : D t with
          | false => rfl
          | true =>
            cases hEt : isE P ops S t with
            | false => rfl
            | true =>
              have := hD t ht2 hDt hEt
              rw [h3 t ht1 this] at hEt; cases hEt
        rw [e1]
        rcases hh1 with hh1 | hh1
        · have := hc.not_behind hDj
          unfold Ah at this
          rw [hh1] at this; cases this
        · exact hone _ hh1
      | false =>
        rcases hh2 with hh2 | hh2
        · have := hc.of_ahead (j := j) hh2
          rw [hDj] at this; cases this
        · refine ih j h1 (by omega) (fun e he hDe hEe => ?_) hh2
          have h5 := hD e he hDe hEe
          rcases Nat.lt_trichotomy e j with h6 | h6 | h6
          · exact h6
          · subst h6; rw [hDj] at hDe; cases hDe
          · rw [h3 e h6 h5] at hEe; cases hEe

theorem seen_mem (C : Canon P k ops base tm0 S val) {i : Nat} {o : Oper} (ho : ops[i]? = some o) (hw : wantedT ops o (S i).tm = true) (hq : isQuiet P o = true) (hl : looks o = true) : ∀ m, m ≤ ops.size → i < m → (⟨i, o, (S i).tm, val i⟩ : Seen) ∈ (S m).seen := by
  intro m
  induction m with
  | zero => intro _ h; omega
  | succ m ih =>
    intro hm hi
    obtain ⟨om, hom⟩ := op_at (show m < ops.size by omega)
    by_cases e : i = m
    · subst e
      rw [ho] at hom; cases hom
      rcases (C.step i o ho).how with ⟨g1, _⟩ | ⟨_, _, _, _, _, _, g7⟩ | ⟨_, g2, _⟩ | ⟨_, g2, _⟩
      · rw [hw] at g1; cases g1
      · rw [g7, if_pos hl]; exact List.mem_cons_self
      · rw [hq] at g2; cases g2
      · rw [hq] at g2; cases g2
    · have := ih (by omega) (by omega)
      rcases (C.step m om hom).how with ⟨_, _, _, _, _, g6⟩ | ⟨_, _, _, _, _, _, g7⟩ | ⟨_, _, _, _, _, _, _, _, _, g6⟩ | ⟨_, _, _, _, _, _, g6⟩
      · rw [g6]; exact this
      · rw [g7]; split
        · exact List.mem_cons_of_mem _ this
        · exact this
      · rw [g6]; exact this
      · rw [g6]; exact this

/-! ### rows that are made and not laid yet -/
/-- What is known of one. -/
structure PendF (B : Nat) (ρ : Map) (h : Heap) (w0 w : World) (x : Nat) (nn : New) (cb : Nat) (c : List Value) : Prop where
  loc : ρ x = some ⟨cb, 0, c.length, nn.es, nn.cells.length⟩
  there : w.heap[cb]? = some (.cells c.toArray nn.elem)
  row : LR ρ nn.cells c
  own : B ≤ cb
  new : w0.heap.size ≤ cb
  apart : ∀ z l, Alive h z → ρ z = some l → l.b ≠ cb

theorem layAll_sound {w w0 : World} {ρ : Map} : ∀ (L : List (Nat × New)) {h : Heap} (_ : HR NG B ρ h w) (_ : ∀ p, p ∈ L → ∃ cb c, PendF B ρ h w0 w (base + p.1) p.2 cb c)
    (_ : L.Pairwise fun p q => ∀ lp lq, ρ (base + p.1) = some lp → ρ (base + q.1) = some lq → lp.b ≠ lq.b), HR NG B ρ (h.layAll base L) w ∧ (h.layAll base L).next = h.next ∧ ∀ z, Alive (h.layAll base L) z → Alive h z ∨ ∃ p, p ∈ L ∧ z = base + p.1 := by
  intro L
  induction L with
  | nil => intro h hh _ _; exact ⟨hh, rfl, fun z hz => .inl hz⟩
  | cons p L ih =>
    intro h hh hp hd
    obtain ⟨i, nn⟩ := p
    obtain ⟨cb, c, hf⟩ := hp (i, nn) (by simp)
    have hlen : nn.cells.length = c.length := hf.row.1
    have h1 : HR NG B ρ (h.lay (base + i) nn) w := hh.live hf.loc (by simp) hf.there (.inl rfl) (by
      have e : c.toArray.toList.take nn.cells.length = c := by simp [hlen]
      rw [e]; exact hf.row) (by simp; omega) hf.own hf.apart
    have hal : ∀ z, Alive (h.lay (base + i) nn) z → z = base + i ∨ Alive h z := fun z hz => alive_get (o := .cells ⟨nn.cells, nn.elem, nn.es, base + i, false⟩) (fun z => by simp only [Heap.lay, Heap.get_setMembers, Heap.get_put]) hz
    obtain ⟨hd1, hd2⟩ := List.pairwise_cons.1 hd
    obtain ⟨g1, g2, g3⟩ := ih h1 (fun q hq => by
      obtain ⟨cq, c2, hq2⟩ := hp q (by simp [hq])
      refine ⟨cq, c2, { hq2 with apart := fun z l hz hl => ?_ }⟩
      rcases hal z hz with e | e
      · subst e
        exact hd1 q hq l _ hl hq2.loc
      · exact hq2.apart z l e hl) hd2
    refine ⟨g1, by rw [Heap.layAll, g2]; simp [Heap.lay, Heap.next_setMembers, Heap.next_put], fun z hz => ?_⟩
    rcases g3 z hz with e | ⟨q, hq, e⟩
    · rcases hal z e with e | e
      · exact .inr ⟨(i, nn), by simp, e⟩
      · exact .inl e
    · exact .inr ⟨q, by simp [hq], e⟩

structure Inv (P : Program) (ops : Array Oper) (base : Nat) (tm0 : Tm) (S : Nat → Ran) (val : Nat → Value) (NG B : Nat) (ρ0 : Map) (h0 : Heap) (w0 : World) (ds : List Deferred) (D : Nat → Bool) (a : Act) (w : World) (ρ : Map) : Prop where
  step : Step base ρ0 h0 w0 ρ (HD P ops S D) w
  hr : HR NG B ρ (HD P ops S D) w
  tr : TR ρ (tmD ops tm0 val D) a
  defers : a.defers = ds
  free : ∀ i, i < ops.size → D i = false ∨ isF P ops S i = false → ρ (base + i) = none
  room : base + ops.size ≤ (HD P ops S D).next
  pend : ∀ i nn, PendD P ops S D i → newOf P ops S i = some nn → ∃ cb c, PendF B ρ (HD P ops S D) w0 w (base + i) nn cb c
  diff : ∀ i j li lj, PendD P ops S D i → PendD P ops S D j → i ≠ j → ρ (base + i) = some li → ρ (base + j) = some lj → li.b ≠ lj.b

/-- With rows laid, that are made: a later state still. -/
theorem step_lay {ρ0 ρ : Map} {h0 h h1 : Heap} {w0 w : World} (hs : Step base ρ0 h0 w0 ρ h w) (hn : h1.next = h.next) (ha : ∀ z, Alive h1 z → Alive h z ∨ ∃ l, ρ z = some l ∧ w0.heap.size ≤ l.b) : Step base ρ0 h0 w0 ρ h1 w :=
  { hs with
    next := by rw [hn]; exact hs.next
    alive := fun x l hx hl => by
      rcases ha x hx with h2 | ⟨l2, h2, h3⟩
      · exact hs.alive x l h2 hl
      · rw [h2] at hl; cases hl; exact .inl h3 }
end
end Go.AX
