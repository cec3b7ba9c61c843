/- A part of the proof that rubriclaw22.PathRead returns true for every text. -/
import Derived.Test.YtgaefkhmibhhoaaGreatDoorAxDrawn3
set_option linter.unusedSimpArgs false
set_option linter.unusedVariables false
namespace Go.AX
open Go
section
variable {P : Program} {k : Caller} {ops : Array Oper} {base : Nat} {tm0 : Tm} {S : Nat → Ran} {val : Nat → Value} {NG B : Nat}

theorem PendD_notE {D : Nat → Bool} {i : Nat} (hc : Closed ops D i) (hE : isE P ops S i = false) {j : Nat} : PendD P ops S (D1 D i) j → PendD P ops S D j ∨ (j = i ∧ isF P ops S i = true) := by
  rintro ⟨h1, h2, h3, h4⟩
  by_cases e : j = i
  · subst e; exact .inr ⟨rfl, h3⟩
  · refine .inl ⟨h1, by simpa [D1, e] using h2, h3, fun x hx hDx hEx => h4 x hx ?_ hEx⟩
    unfold D1; split
    · rfl
    · exact hDx
theorem PendD_E {D : Nat → Bool} {i : Nat} (hc : Closed ops D i) (hE : isE P ops S i = true) {j : Nat} : PendD P ops S (D1 D i) j → PendD P ops S D j ∧ Ah ops j i = false := by
  rintro ⟨h1, h2, h3, h4⟩
  have e : j ≠ i := by
    rintro rfl
    rw [E_notF hE] at h3; cases h3
  refine ⟨⟨h1, by simpa [D1, e] using h2, h3, fun x hx hDx hEx => h4 x hx ?_ hEx⟩, h4 i hc.here (by simp [D1]) hE⟩
  unfold D1; split
  · rfl
  · exact hDx

/-- Effects that are done stand ahead. -/
theorem E_before (C : Canon P k ops base tm0 S val) {D : Nat → Bool} {i : Nat} (hc : Closed ops D i) (hE : isE P ops S i = true) {e : Nat} (h1 : e < ops.size) (hD : D e = true) (hEe : isE P ops S e = true) : e < i := by
  obtain ⟨o, ho⟩ := op_at hc.here
  obtain ⟨_, g2, g3, _⟩ := isE_step C ho hE
  rcases Nat.lt_trichotomy e i with h | h | h
  · exact h
  · subst h; rw [hc.out] at hD; cases hD
  · obtain ⟨oj, hoj⟩ := op_at h1
    obtain ⟨_, f2, f3, _⟩ := isE_step C hoj hEe
    have hp := C.pair e oj i o h hoj ho
    simp only [okPair, g2, g3, f2, f3, Bool.or_false, Bool.and_false] at hp
    have := hc.not_behind hD
    unfold Ah at this
    rw [hp] at this; cases this

section
variable {ρ0 ρ : Map} {h0 : Heap} {w0 w : World} {ds : List Deferred} {D : Nat → Bool} {a : Act} {i : Nat} {o : Oper}

theorem Inv.ev (I : Inv P ops base tm0 S val NG B ρ0 h0 w0 ds D a w ρ) (C : Canon P k ops base tm0 S val) (hG : NG = P.globals.size) (hc : Closed ops D i) (ho : ops[i]? = some o) (hok : ∀ x, x ∈ o.op.operands → opdOk P x = true) :
    ∀ x, x ∈ o.op.operands → VR ρ (AX.ev (S i).tm x) (a.eval x) := fun x hx => by
  rw [← ev_same C hc ho hx]
  exact I.tr.eval I.hr hG (hok x hx)

theorem put_defers (a : Act) (d : Option Tmp) (v : Value) : (a.put d v).defers = a.defers := by cases d <;> rfl

/-- Nothing is made nor turned. -/
theorem Inv.still (I : Inv P ops base tm0 S val NG B ρ0 h0 w0 ds D a w ρ) (C : Canon P k ops base tm0 S val) (hc : Closed ops D i) (ho : ops[i]? = some o) (hE : isE P ops S i = false) (hF : isF P ops S i = false) {v' : Value} (hv : VR ρ (val i) v') :
    Inv P ops base tm0 S val NG B ρ0 h0 w0 ds (D1 D i) (a.put o.dst v') w ρ := by
  have hHD := HD_notE (P := P) (S := S) (D := D) hE
  have hpd : ∀ j, PendD P ops S (D1 D i) j → PendD P ops S D j := fun j hj => by
    rcases PendD_notE hc hE hj with h | ⟨_, h⟩
    · exact h
    · rw [hF] at h; cases h
  exact {
    step := by rw [hHD]; exact I.step
    hr := by rw [hHD]; exact I.hr
    tr := by rw [tmD_put C hc ho]; exact I.tr.put hv _
    defers := by rw [put_defers]; exact I.defers
    free := fun j hj h => by
      by_cases e : j = i
      · subst e; exact I.free j hj (.inl hc.out)
      · exact I.free j hj (by simpa [D1, e] using h)
    room := by rw [hHD]; exact I.room
    pend := fun j nn hj hn => by rw [hHD]; exact I.pend j nn (hpd j hj) hn
    diff := fun x y lx ly hx hy => I.diff x y lx ly (hpd x hx) (hpd y hy) }

/-- A row is made. -/
theorem Inv.fresh (I : Inv P ops base tm0 S val NG B ρ0 h0 w0 ds D a w ρ) (C : Canon P k ops base tm0 S val) (hc : Closed ops D i) (ho : ops[i]? = some o) (hF : isF P ops S i = true) {n : New} (hn : newOf P ops S i = some n) (hval : val i = n.at (base + i))
    {c : List Value} (hl : LR ρ n.cells c) (hlen : ∀ l, n.len = some l → l * n.es ≤ c.length) :
    Inv P ops base tm0 S val NG B ρ0 h0 w0 ds (D1 D i) (a.put o.dst (n.at w.heap.size)) { w with heap := w.heap.push (.cells c.toArray n.elem) } (upd ρ (base + i) ⟨w.heap.size, 0, c.length, n.es, n.cells.length⟩) := by
  have hE : isE P ops S i = false := by
    cases h : isE P ops S i with
    | false => rfl
    | true => rw [E_notF h] at hF; cases hF
  have hHD := HD_notE (P := P) (S := S) (D := D) hE
  have hi := hc.here
  have hnone : ρ (base + i) = none := I.free i hi (.inl hc.out)
  have hext := Ext.upd ⟨w.heap.size, 0, c.length, n.es, n.cells.length⟩ hnone
  have hroom := I.room
  have hpd : ∀ j, PendD P ops S (D1 D i) j → j ≠ i → PendD P ops S D j := fun j hj hne => by
    rcases PendD_notE hc hE hj with h | ⟨h, _⟩
    · exact h
    · exact absurd h hne
  have hal : ∀ z l, Alive (HD P ops S D) z → upd ρ (base + i) ⟨w.heap.size, 0, c.length, n.es, n.cells.length⟩ z = some l → ρ z = some l := by
    intro z l hz hl
    have hzn : z ≠ base + i := by
      rintro rfl
      rcases hz with ⟨b, hb⟩ | ⟨s, p, hb⟩
      · obtain ⟨l2, h3, _⟩ := I.hr.cells _ b hb; rw [hnone] at h3; cases h3
      · obtain ⟨l2, h3, _⟩ := I.hr.iter _ s p hb; rw [hnone] at h3; cases h3
    rwa [upd_ne _ _ hzn] at hl
  exact {
    step := by
      rw [hHD]
      refine I.step.trans (Step.upd hnone (by omega) (Nat.le_refl _) (fun z hz => .inr hz) (.inl (Nat.le_refl _)) (by simp) rfl rfl rfl fun b hb _ => ?_)
      simp only [Array.getElem?_push]; rw [if_neg (by omega)]
    hr := by
      rw [hHD]
      exact (I.hr.alloc _).extend hnone (by omega) (by simp)
    tr := by
      rw [tmD_put C hc ho, hval]
      exact (I.tr.mono hext).put (New.vr (upd_same _ _ _) hlen) _
    defers := by rw [put_defers]; exact I.defers
    free := fun j hj h => by
      by_cases e : j = i
      · subst e; simp [D1, hF] at h
      · rw [upd_ne _ _ (by omega)]
        exact I.free j hj (by simpa [D1, e] using h)
    room := by rw [hHD]; exact I.room
    pend := fun j nn hj hnn => by
      rw [hHD]
      by_cases e : j = i
      · subst e
        rw [hn] at hnn; cases hnn
        refine ⟨w.heap.size, c, upd_same _ _ _, by simp, hl.mono hext, I.hr.room, I.step.size, fun z l hz hl2 he => ?_⟩
        have := (I.hr.dom z l (hal z l hz hl2)).2
        omega
      · obtain ⟨cb, c2, hf⟩ := I.pend j nn (hpd j hj e) hnn
        refine ⟨cb, c2, hext _ _ hf.loc, ?_, hf.row.mono hext, hf.own, hf.new, fun z l hz hl2 => hf.apart z l hz (hal z l hz hl2)⟩
        have := (I.hr.dom _ _ hf.loc).2
        simp only [Array.getElem?_push]
        simp only at this
        rw [if_neg (by omega)]; exact hf.there
    diff := fun x y lx ly hx hy hne hlx hly => by
      by_cases e : x = i
      · have e' : y ≠ i := fun h => hne (e.trans h.symm)
        subst e
        rw [upd_same] at hlx; cases hlx
        rw [upd_ne _ _ (by omega)] at hly
        have := (I.hr.dom _ _ hly).2
        simp only; omega
      · rw [upd_ne _ _ (by omega)] at hlx
        by_cases e' : y = i
        · subst e'
          rw [upd_same] at hly; cases hly
          have := (I.hr.dom _ _ hlx).2
          simp only; omega
        · rw [upd_ne _ _ (by omega)] at hly
          exact I.diff x y lx ly (hpd x hx e) (hpd y hy e') hne hlx hly }

/-- An effect. -/
theorem Inv.effect (I : Inv P ops base tm0 S val NG B ρ0 h0 w0 ds D a w ρ) (C : Canon P k ops base tm0 S val) (hc : Closed ops D i) (ho : ops[i]? = some o) (hE : isE P ops S i = true) :
    ∃ H, AX.effect P k o (AX.ev (S i).tm) H = some (val i, (S (i + 1)).h) ∧ HR NG B ρ H w ∧ Step base ρ0 h0 w0 ρ H w ∧ ∀ ρ' w' v', Step H.next ρ H w ρ' (S (i + 1)).h w' → HR NG B ρ' (S (i + 1)).h w' → VR ρ' (val i) v' →
      Inv P ops base tm0 S val NG B ρ0 h0 w0 ds (D1 D i) (a.put o.dst v') w' ρ' := by
  obtain ⟨_, _, _, g4, g5, _⟩ := isE_step C ho hE
  have hi := hc.here
  have hHD := HD_E C hc hE
  have hHD1 := HD_E1 C hc hE
  obtain ⟨p1, p2⟩ := C.pend_at i (by omega)
  have hL : ∀ p, p ∈ ((S i).pend.filter fun x => ahead ops ops.size x.1 i) → PendD P ops S D p.1 ∧ newOf P ops S p.1 = some p.2 ∧ Ah ops p.1 i = true := by
    intro p hp
    rw [List.mem_filter] at hp
    obtain ⟨q1, q2, q3, q4⟩ := (p1 p).1 hp.1
    have hA : Ah ops p.1 i = true := by simpa using hp.2
    exact ⟨⟨by omega, hc.of_ahead hA, q2, fun e he hDe hEe => q4 e (E_before C hc hE he hDe hEe) hEe⟩, q3, hA⟩
  have hh := I.hr
  rw [hHD] at hh
  have hst := I.step
  rw [hHD] at hst
  obtain ⟨l1, l2, l3⟩ := layAll_sound (base := base) (w0 := w0) _ hh (fun p hp => by
    obtain ⟨cb, c, hf⟩ := I.pend p.1 p.2 (hL p hp).1 (hL p hp).2.1
    rw [hHD] at hf
    exact ⟨cb, c, hf⟩) ((p2.filter _).imp_of_mem fun {p q} hp hq hne lp lq h1 h2 => I.diff p.1 q.1 lp lq (hL p hp).1 (hL q hq).1 hne h1 h2)
  have hroom := I.room
  rw [hHD] at hroom
  have hst2 : Step base ρ0 h0 w0 ρ ((S i).h.layAll base ((S i).pend.filter fun x => ahead ops ops.size x.1 i)) w := step_lay hst l2 fun z hz => by
    rcases l3 z hz with h | ⟨p, hp, rfl⟩
    · exact .inl h
    · obtain ⟨cb, c, hf⟩ := I.pend p.1 p.2 (hL p hp).1 (hL p hp).2.1
      exact .inr ⟨_, hf.loc, hf.new⟩
  refine ⟨_, g4, l1, hst2, fun ρ' w' v' s1 s2 s3 => ?_⟩
  have hsome : ∀ j nn, PendD P ops S D j → newOf P ops S j = some nn → ∃ l, ρ (base + j) = some l := fun j nn hj hn => by
    obtain ⟨cb, c, hf⟩ := I.pend j nn hj hn
    exact ⟨_, hf.loc⟩
  have hnew : ∀ j, PendD P ops S D j → ∃ nn, newOf P ops S j = some nn := fun j hj => by
    obtain ⟨oj, hoj⟩ := op_at hj.1
    obtain ⟨_, _, _, n, _, h5, _⟩ := isF_step C hoj hj.2.2.1
    exact ⟨n, h5⟩
  exact {
    step := by
      rw [hHD1]
      exact hst2.trans (s1.weaken (by rw [l2]; omega))
    hr := by rw [hHD1]; exact s2
    tr := by
      rw [tmD_put C hc ho]
      exact (I.tr.mono s1.ext).put s3 _
    defers := by rw [put_defers]; exact I.defers
    free := fun j hj h => by
      have h2 : ρ (base + j) = none := by
        by_cases e : j = i
        · subst e; exact I.free j hj (.inl hc.out)
        · exact I.free j hj (by simpa [D1, e] using h)
      cases e : ρ' (base + j) with
      | none => rfl
      | some l =>
        have := s1.new (base + j) h2 (by rw [e]; simp)
        rw [l2] at this
        omega
    room := by
      rw [hHD1]
      have := s1.next
      rw [l2] at this
      omega
    pend := fun j nn hj hnn => by
      rw [hHD1]
      obtain ⟨hj1, hj2⟩ := PendD_E hc hE hj
      obtain ⟨cb, c, hf⟩ := I.pend j nn hj1 hnn
      rw [hHD] at hf
      have hcb := (I.hr.dom _ _ hf.loc).2
      simp only at hcb
      have hap : ∀ z l, Alive ((S i).h.layAll base ((S i).pend.filter fun x => ahead ops ops.size x.1 i)) z → ρ z = some l → l.b ≠ cb := by
        intro z l hz hl
        rcases l3 z hz with h | ⟨p, hp, rfl⟩
        · exact hf.apart z l h hl
        · obtain ⟨q1, q2, q3⟩ := hL p hp
          have hne : p.1 ≠ j := by
            rintro e
            rw [e, hj2] at q3; cases q3
          exact I.diff p.1 j l _ q1 hj1 hne hl hf.loc
      refine ⟨cb, c, s1.ext _ _ hf.loc, ?_, hf.row.mono s1.ext, hf.own, hf.new, fun z l hz hl => ?_⟩
      · rw [s1.keep cb hcb hap]; exact hf.there
      · rcases s1.alive z l hz hl with h | ⟨y, ly, hy, hly, e⟩
        · omega
        · rw [← e]; exact hap y ly hy hly
    diff := fun x y lx ly hx hy hne hlx hly => by
      have hx1 := (PendD_E hc hE hx).1
      have hy1 := (PendD_E hc hE hy).1
      obtain ⟨nx, hnx⟩ := hnew x hx1
      obtain ⟨ny, hny⟩ := hnew y hy1
      obtain ⟨l1, e1⟩ := hsome x nx hx1 hnx
      obtain ⟨l2, e2⟩ := hsome y ny hy1 hny
      have f1 := s1.ext _ _ e1
      have f2 := s1.ext _ _ e2
      rw [hlx] at f1; cases f1
      rw [hly] at f2; cases f2
      exact I.diff x y lx ly hx1 hy1 hne e1 e2 }
end
end
end Go.AX
