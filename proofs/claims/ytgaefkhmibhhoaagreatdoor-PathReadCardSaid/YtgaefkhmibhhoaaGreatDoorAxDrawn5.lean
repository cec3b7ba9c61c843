/- A part of the proof that rubriclaw22.PathRead returns true for every text. -/
import Derived.Test.YtgaefkhmibhhoaaGreatDoorAxDrawn4
set_option linter.unusedSimpArgs false
set_option linter.unusedVariables false
namespace Go.AX
open Go

def cntU (D : Nat → Bool) : Nat → Nat
  | 0 => 0
  | n + 1 => cntU D n + (if D n then 1 else 0)
theorem cntU_le (D : Nat → Bool) : ∀ n, cntU D n ≤ n := by
  intro n
  induction n with
  | zero => simp [cntU]
  | succ n ih => simp only [cntU]; split <;> omega
theorem cntU_all {D : Nat → Bool} : ∀ n, cntU D n = n → ∀ j, j < n → D j = true := by
  intro n
  induction n with
  | zero => intro _ j h; omega
  | succ n ih =>
    intro h j hj
    simp only [cntU] at h
    have := cntU_le D n
    split at h
    · rename_i hD
      by_cases e : j = n
      · subst e; exact hD
      · exact ih (by omega) j (by omega)
    · omega
theorem cntU_D1 {D : Nat → Bool} {i : Nat} (h : D i = false) : ∀ n, cntU (D1 D i) n = cntU D n + (if i < n then 1 else 0) := by
  intro n
  induction n with
  | zero => simp [cntU]
  | succ n ih =>
    simp only [cntU]
    rw [ih]
    by_cases e : n = i
    · subst e
      simp [D1, h]
    · by_cases e2 : i < n
      · simp [D1, e, e2, show i < n + 1 by omega]; omega
      · simp [D1, e, e2, show ¬ i < n + 1 by omega]

section
variable {P : Program} {k : Caller} {ops : Array Oper} {base : Nat} {tm0 : Tm} {S : Nat → Ran} {val : Nat → Value} {NG B : Nat}

/-- All of them done, what there is is what the one order comes to. -/
theorem Inv.last {ρ0 ρ : Map} {h0 : Heap} {w0 w : World} {ds : List Deferred} {D : Nat → Bool} {a : Act} (I : Inv P ops base tm0 S val NG B ρ0 h0 w0 ds D a w ρ) (C : Canon P k ops base tm0 S val) (hD : ∀ j, j < ops.size → D j = true) :
    Step base ρ0 h0 w0 ρ ((S ops.size).h.layAll base (S ops.size).pend) w ∧ HR NG B ρ ((S ops.size).h.layAll base (S ops.size).pend) w ∧ TR ρ (S ops.size).tm a := by
  have hh : HD P ops S D = (S ops.size).h := by
    rw [C.h_at ops.size (Nat.le_refl _)]
    unfold HD
    rw [lastOf_eq (q := isE P ops S) (n := ops.size) fun j => ?_]
    constructor
    · rintro ⟨h1, h2⟩
      simp only [Bool.and_eq_true] at h2
      exact ⟨h1, h2.2⟩
    · rintro ⟨h1, h2⟩
      exact ⟨h1, by simp [hD j h1, h2]⟩
  have ht : tmD ops tm0 val D = (S ops.size).tm := by
    apply List.ext_getElem?
    intro t
    have hlen := C.tm_len ops.size (Nat.le_refl _)
    by_cases e : t < tm0.length
    · have h1 := C.tm_at ops.size (Nat.le_refl _) t e
      simp only [tmD, List.getElem?_map, List.getElem?_range e, Option.map_some]
      rw [getT_eq, List.getD_eq_getElem?_getD] at h1
      have h2 : (S ops.size).tm[t]? = some ((S ops.size).tm[t]'(by omega)) := List.getElem?_eq_getElem (by omega)
      rw [h2, Option.getD_some] at h1
      rw [h2, h1]
      congr 1
      unfold tmAt
      rw [lastOf_eq (q := dstIs ops t) (n := ops.size) fun j => ?_]
      constructor
      · rintro ⟨h1, h2⟩
        simp only [Bool.and_eq_true] at h2
        exact ⟨h1, h2.2⟩
      · rintro ⟨h1, h2⟩
        exact ⟨h1, by simp [hD j h1, h2]⟩
    · rw [List.getElem?_eq_none (by simp [tmD]; omega), List.getElem?_eq_none (by omega)]
  obtain ⟨p1, p2⟩ := C.pend_at ops.size (Nat.le_refl _)
  have hL : ∀ p, p ∈ (S ops.size).pend → PendD P ops S D p.1 ∧ newOf P ops S p.1 = some p.2 := by
    intro p hp
    obtain ⟨q1, q2, q3, q4⟩ := (p1 p).1 hp
    exact ⟨⟨q1, hD _ q1, q2, fun e he _ hEe => q4 e he hEe⟩, q3⟩
  have hr := I.hr
  rw [hh] at hr
  have hst := I.step
  rw [hh] at hst
  obtain ⟨l1, l2, l3⟩ := layAll_sound (base := base) (w0 := w0) _ hr (fun p hp => by
    obtain ⟨cb, c, hf⟩ := I.pend p.1 p.2 (hL p hp).1 (hL p hp).2
    rw [hh] at hf
    exact ⟨cb, c, hf⟩) (p2.imp_of_mem fun {p q} hp hq hne lp lq h1 h2 => I.diff p.1 q.1 lp lq (hL p hp).1 (hL q hq).1 hne h1 h2)
  refine ⟨step_lay hst l2 fun z hz => ?_, l1, by rw [← ht]; exact I.tr⟩
  rcases l3 z hz with h | ⟨p, hp, rfl⟩
  · exact .inl h
  · obtain ⟨cb, c, hf⟩ := I.pend p.1 p.2 (hL p hp).1 (hL p hp).2
    exact .inr ⟨_, hf.loc, hf.new⟩

theorem getD_set {l : Array Bool} {i : Nat} (hi : i < l.size) (j : Nat) (d : Bool) : (l.setIfInBounds i true).getD j d = if j = i then true else l.getD j d := by
  rw [Array.getD_eq_getD_getElem?, Array.getD_eq_getD_getElem?]
  by_cases e : j = i
  · subst e; simp [hi]
  · rw [Array.getElem?_setIfInBounds_ne (fun h => e h.symm), if_neg e]

theorem any_sound (hx : XOK P) (hN : NOK P) (hG : NG = P.globals.size) {J : Map → Heap → World → Prop} (hC : JC J) (hk : KOK P NG B J k) (C : Canon P k ops base tm0 S val) (hok : ∀ (i : Nat) (o : Oper), ops[i]? = some o → ∀ x, x ∈ o.op.operands → opdOk P x = true)
    (hseen : (S ops.size).effs = [] ∨ ∀ x ∈ (S ops.size).seen, holdsAt P ops x (S ops.size).h (S ops.size).effs = true) {Q : Exit → Act → World → Prop}
    {ρ0 : Map} {h0 : Heap} {w0 : World} {ds : List Deferred} (hJ : J ρ0 h0 w0)
    (hQ : ∀ ρ' w' a', Step base ρ0 h0 w0 ρ' ((S ops.size).h.layAll base (S ops.size).pend) w' → HR NG B ρ' ((S ops.size).h.layAll base (S ops.size).pend) w' → TR ρ' (S ops.size).tm a' → a'.defers = ds → Q .normal a' w') :
    ∀ (fuel : Nat) (listed : Array Bool) (D : Nat → Bool) (a : Act) (w : World) (ρ : Map), listed.size = ops.size → (∀ j d, j < ops.size → listed.getD j d = D j) → (∀ j, ops.size ≤ j → D j = false) → fuel + cntU D ops.size = ops.size →
      (∀ j o, ops[j]? = some o → D j = true → ∀ e ∈ edgesOf o, D e = true) → Inv P ops base tm0 S val NG B ρ0 h0 w0 ds D a w ρ → wpAny P .any ops Q fuel listed a w := by
  -- who is ready
  have hready : ∀ (listed : Array Bool) (D : Nat → Bool), (∀ j d, j < ops.size → listed.getD j d = D j) → ∀ i, i ∈ Region.ready .any ops listed ↔ i < ops.size ∧ D i = false ∧ ∀ o, ops[i]? = some o → ∀ e ∈ edgesOf o, D e = true := by
    intro listed D hl i
    simp only [Region.ready, List.mem_filter, List.mem_range, Bool.and_eq_true, Bool.not_eq_true']
    constructor
    · rintro ⟨h1, h2, h3⟩
      refine ⟨h1, by rw [← hl i true h1]; exact h2, fun o ho e he => ?_⟩
      rw [ho] at h3
      simp only [Option.map_some, Option.getD_some, Array.all_eq_true'] at h3
      obtain ⟨d, hd1, hd2, hd3⟩ := mem_edges.1 he
      have h4 := h3 d hd1
      simp only [hd2, Bool.not_true, Bool.false_or] at h4
      have he2 : e < i := C.edge i o ho e he
      rw [hd3, hl e false (by omega)] at h4
      exact h4
    · rintro ⟨h1, h2, h3⟩
      refine ⟨h1, by rw [hl i true h1]; exact h2, ?_⟩
      obtain ⟨o, ho⟩ := op_at h1
      rw [ho]
      simp only [Option.map_some, Option.getD_some, Array.all_eq_true']
      intro d hd
      cases hb : Region.binds .any d with
      | false => rfl
      | true =>
        have he := mem_edges.2 ⟨d, hd, hb, rfl⟩
        have := C.edge i o ho _ he
        simp only [Bool.not_true, Bool.false_or]
        rw [hl d.on false (by omega)]
        exact h3 o ho _ he
  have hend : ∀ (D : Nat → Bool) (a : Act) (w : World) (ρ : Map), (∀ j, j < ops.size → D j = true) → Inv P ops base tm0 S val NG B ρ0 h0 w0 ds D a w ρ → Q .normal a w := by
    intro D a w ρ hD I
    obtain ⟨q1, q2, q3⟩ := I.last C hD
    exact hQ ρ w a q1 q2 q3 I.defers
  intro fuel
  induction fuel with
  | zero =>
    intro listed D a w ρ hs hl hout hf hcl I
    have hD := cntU_all (D := D) ops.size (by omega)
    refine ⟨?_, hend D a w ρ hD I⟩
    cases hr : Region.ready .any ops listed with
    | nil => rfl
    | cons i l =>
      obtain ⟨h1, h2, _⟩ := (hready listed D hl i).1 (by rw [hr]; simp)
      rw [hD i h1] at h2; cases h2
  | succ fuel ih =>
    intro listed D a w ρ hs hl hout hf hcl I
    refine ⟨fun hr => ?_, fun i hi => ?_⟩
    · refine hend D a w ρ (fun j => ?_) I
      induction j using Nat.strongRecOn with
      | _ j ihj =>
        intro hj
        cases hDj : D j with
        | true => rfl
        | false =>
          have : j ∈ Region.ready .any ops listed := (hready listed D hl j).2 ⟨hj, hDj, fun o ho e he => by
            have := C.edge j o ho e he
            exact ihj e this (by omega)⟩
          rw [hr] at this; cases this
    · obtain ⟨h1, h2, h3⟩ := (hready listed D hl i).1 hi
      obtain ⟨o, ho⟩ := op_at h1
      have hc : Closed ops D i := ⟨hcl, h2, h1, h3⟩
      have hnext : ∀ a' w' ρ', Inv P ops base tm0 S val NG B ρ0 h0 w0 ds (D1 D i) a' w' ρ' → wpAny P .any ops Q fuel (listed.setIfInBounds i true) a' w' := by
        intro a' w' ρ' I'
        refine ih _ (D1 D i) a' w' ρ' (by simpa using hs) (fun j d hj => ?_) (fun j hj => ?_) ?_ (fun j oj hoj hDj e he => ?_) I'
        · rw [getD_set (by omega)]
          unfold D1
          rw [hl j d hj]
        · unfold D1; rw [if_neg (by omega)]; exact hout j hj
        · rw [cntU_D1 h2, if_pos h1]; omega
        · unfold D1 at hDj ⊢
          split
          · rfl
          · split at hDj
            · rename_i hji
              subst hji
              rw [ho] at hoj; cases hoj
              exact h3 o ho e he
            · exact hcl j oj hoj hDj e he
      unfold wpOp
      simp only [ho]
      rw [I.tr.wanted, wanted_same C hc ho]
      have hev := I.ev C hG hc ho (hok i o ho)
      rcases (C.step i o ho).how with ⟨g1, g2, _⟩ | ⟨g1, g2, g3, _⟩ | ⟨g1, g2, g3, n, g4, g5, _⟩ | ⟨g1, g2, g3, g4, _⟩
      · rw [if_neg (by simp [g1])]
        refine hnext _ _ ρ (I.still C hc ho (by simp [isE, ho, g1]) (by simp [isF, ho, g1]) ?_)
        rw [g2]; exact VR.undef _
      · rw [if_pos g1]
        refine .inl ?_
        have hq : quiet P o (ev (S i).tm) (HD P ops S D) = some (val i) := by
          cases hlk : looks o with
          | false => rw [quiet_blind hlk _ _ (S i).h]; exact g3
          | true =>
            rcases hseen with he | hs
            · have hnoE : ∀ e, e < ops.size → isE P ops S e = false := by
                rcases C.effs_at ops.size (Nat.le_refl _) with ⟨_, h⟩ | ⟨j, _, _, _, h⟩
                · exact h
                · rw [he] at h; cases h
              have e1 : HD P ops S D = (S i).h := by
                rw [C.h_at i (by omega)]
                have n1 : lastOf (isE P ops S) i = none := by
                  cases hl : lastOf (isE P ops S) i with
                  | none => rfl
                  | some e => obtain ⟨f1, f2, _⟩ := lastOf_some hl; rw [hnoE e (by omega)] at f2; cases f2
                have n2 : lastOf (fun j => D j && isE P ops S j) ops.size = none := by
                  cases hl : lastOf (fun j => D j && isE P ops S j) ops.size with
                  | none => rfl
                  | some e =>
                    obtain ⟨f1, f2, _⟩ := lastOf_some hl
                    simp only [Bool.and_eq_true] at f2
                    rw [hnoE e f1] at f2; cases f2.2
                unfold HD
                rw [n1, n2]
              rw [e1]; exact g3
            · have hm := seen_mem C ho g1 g2 hlk ops.size (Nat.le_refl _) h1
              exact holds_at C hc ⟨i, o, (S i).tm, val i⟩ rfl ops.size (Nat.le_refl _) (fun e he _ _ => he) (hs _ hm)
        obtain ⟨v', r1, r2⟩ := quiet_sound I.hr hq hev
        unfold Oper.wp
        rw [r1]
        exact hnext _ _ ρ (I.still C hc ho (by simp [isE, ho, g2]) (by simp [isF, ho, g2, g1, show isFresh o = false by
          cases hfo : isFresh o with
          | false => rfl
          | true =>
            exfalso
            unfold isFresh at hfo
            unfold isQuiet at g2
            split at hfo <;> simp_all]) r2)
      · rw [if_pos g1]
        refine .inl ?_
        obtain ⟨c, r1, r2, r3⟩ := fresh_sound (w := w) g4 hev
        unfold Oper.wp
        rw [r1]
        exact hnext _ _ _ (I.fresh C hc ho (by simp [isF, ho, g1, g2, g3]) (by simp [newOf, ho, g4]) g5 r2 r3)
      · rw [if_pos g1]
        refine .inl ?_
        obtain ⟨H, r1, r2, rs, r3⟩ := I.effect C hc ho (by simp [isE, ho, g1, g2, g3])
        exact effect_sound hx hN hk r2 (hC _ _ _ _ _ _ _ rs hJ) r1 hev _ _ fun ρ' w' v' s1 s2 s3 => hnext _ _ ρ' (r3 ρ' w' v' s1 s2 s3)

theorem drawn_sound (hm : P.follows .mixedOrders = true) (hx : XOK P) (hN : NOK P) (hG : NG = P.globals.size) {J : Map → Heap → World → Prop} (hC : JC J) (hk : KOK P NG B J k) {Q : Exit → Act → World → Prop} {id : Nat} {tm tm' : Tm} {h h' : Heap} {ρ : Map} {w : World} {a : Act}
    (hr : runDrawn P k ops tm h = some (tm', h')) (hok : opsOk P ops = true) (hh : HR NG B ρ h w) (hJ : J ρ h w) (ht : TR ρ tm a)
    (hQ : ∀ ρ' w' a', Step h.next ρ h w ρ' h' w' → HR NG B ρ' h' w' → TR ρ' tm' a' → a'.defers = a.defers → Q .normal a' w') : (Code.region id ops true).wp P Q a w := by
  unfold runDrawn at hr
  split at hr
  · rename_i hord
    split at hr
    · rename_i r hrun
      split at hr
      · rename_i hsn
        simp only [Option.some.injEq, Prod.mk.injEq] at hr
        obtain ⟨rfl, rfl⟩ := hr
        obtain ⟨S, val, t1, t2, t3⟩ := trace_of ops.toList 0 _ _ (by simp) hrun
        have hall := okAll_at ops.toList 0 hord (by simp)
        have C : Canon P k ops h.next tm S val := {
          tm := by rw [t1]
          pend := by rw [t1]
          effs := by rw [t1]
          seen := by rw [t1]
          step := fun j o ho => t3 j o (by omega) (by have := size_of ho; simpa using this) ho
          edge := fun j o ho => (hall j o (by omega) ho).1
          pair := fun t ot i oi hit hot hoi => (hall t ot (by omega) hot).2 i oi hit hoi }
        have t2 : S ops.size = r := by simpa using t2
        have hh1 : HR NG B ρ { h with next := h.next + ops.size } w := hh.weaken (by simp) (fun z o hz => .inl hz) (fun z b _ hm => hm)
        have hS0 : (S 0).h = { h with next := h.next + ops.size } := by rw [t1]
        have hHD : HD P ops S (fun _ => false) = { h with next := h.next + ops.size } := by
          have : lastOf (fun j => false && isE P ops S j) ops.size = none := by
            cases hl : lastOf (fun j => false && isE P ops S j) ops.size with
            | none => rfl
            | some e => obtain ⟨_, f2, _⟩ := lastOf_some hl; simp at f2
          unfold HD
          rw [this, hS0]
        refine wp_region_any hm ?_
        refine any_sound (base := h.next) (ρ0 := ρ) (h0 := h) (w0 := w) (ds := a.defers) hx hN hG hC hk C (fun i o ho x hx' => ?_) ?_ hJ ?_ ops.size _ (fun _ => false) a _ ρ (by simp) (fun j d hj => ?_) (fun _ _ => rfl) ?_ (fun j o _ hD => by cases hD) ?_
        · have h1 := List.all_eq_true.1 hok o (List.mem_of_getElem? (by simpa using ho))
          exact List.all_eq_true.1 h1 x (by simpa using hx')
        · rw [t2]
          simp only [Bool.or_eq_true, List.isEmpty_iff, List.all_eq_true] at hsn
          exact hsn
        · rw [t2]; exact hQ
        · rw [Array.getD_eq_getD_getElem?]; simp [hj]
        · have : ∀ n, cntU (fun _ => false) n = 0 := by
            intro n; induction n with
            | zero => rfl
            | succ n ih => simp [cntU, ih]
          rw [this]; rfl
        · have htm : tmD ops tm val (fun _ => false) = tm := by
            apply List.ext_getElem?
            intro t
            by_cases e : t < tm.length
            · simp only [tmD, List.getElem?_map, List.getElem?_range e, Option.map_some]
              unfold tmAt
              have : lastOf (fun j => false && dstIs ops t j) ops.size = none := by
                cases hl : lastOf (fun j => false && dstIs ops t j) ops.size with
                | none => rfl
                | some e => obtain ⟨_, f2, _⟩ := lastOf_some hl; simp at f2
              rw [this]
              simp only [getT_eq, List.getD_eq_getElem?_getD]
              rw [List.getElem?_eq_getElem e]; rfl
            · rw [List.getElem?_eq_none (by simp [tmD]; omega), List.getElem?_eq_none (by omega)]
          exact {
            step := by
              rw [hHD]
              exact .same (by simp) (fun z hz => hz) rfl rfl rfl (Nat.le_refl _) (fun _ _ _ => rfl)
            hr := by rw [hHD]; exact hh1.drawn _
            tr := by rw [htm]; exact ht
            defers := rfl
            free := fun i _ _ => hh.none_next (by omega)
            room := by rw [hHD]; exact Nat.le_refl _
            pend := fun i nn hp => by cases hp.2.1
            diff := fun i j li lj hp => by cases hp.2.1 }
      · cases hr
    · cases hr
  · cases hr
end
end Go.AX
