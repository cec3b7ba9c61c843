/- A part of the proof that rubriclaw22.PathPrint returns true for every path. -/
import Derived.Test.YtgaefkhmibhhoaaGreatDoorAxEffect
set_option linter.unusedSimpArgs false
set_option linter.unusedVariables false
namespace Go.AX
open Go
section
variable {P : Program} {w : World} {NG B : Nat} {ρ : Map} {h : Heap}

/-- A frame. -/
def TR (ρ : Map) (tm : Tm) (a : Act) : Prop := LR ρ tm a.tmps.toList

theorem TR.mono {ρ ρ' : Map} (he : Ext ρ ρ') {tm : Tm} {a : Act} (ht : TR ρ tm a) : TR ρ' tm a := LR.mono he ht
theorem TR.get {tm : Tm} {a : Act} (ht : TR ρ tm a) (t : Nat) : VR ρ (getT tm t) (a.tmps.getD t undef) := by
  rw [getT_eq]
  cases hx : tm[t]? with
  | none =>
    have h1 : tm.length ≤ t := List.getElem?_eq_none_iff.1 hx
    have h2 : a.tmps.size ≤ t := by have := ht.1; simp at this; omega
    rw [List.getD_eq_getElem?_getD, hx]
    have : a.tmps.getD t undef = undef := by simp [Array.getD]; omega
    rw [this]
    exact VR.undef ρ
  | some v =>
    obtain ⟨v', h1, h2⟩ := LR.get ht hx
    have : a.tmps.getD t undef = v' := by
      have h3 : a.tmps[t]? = some v' := by simpa using h1
      rw [Array.getD_eq_getD_getElem?, h3]; rfl
    rw [List.getD_eq_getElem?_getD, hx, this]
    exact h2
theorem TR.eval (hh : HR NG B ρ h w) (hN : NG = P.globals.size) {tm : Tm} {a : Act} (ht : TR ρ tm a) {x : Operand} (hx : opdOk P x = true) : VR ρ (ev tm x) (a.eval x) := by
  cases x with
  | tmp t => exact ht.get t
  | const v =>
    simp only [opdOk] at hx
    simp only [ev, Act.eval, hx, if_true]
    exact VR.closed hx
  | global g =>
    simp only [opdOk] at hx
    have hg : g < NG := by rw [hN]; exact Nat.le_of_ble_eq_true hx
    obtain ⟨l, h1, h2, h3⟩ := hh.glob g hg
    have := VR.ptr (ρ := ρ) g 0 l h1
    rw [h2, h3] at this
    exact this
  | func f => exact .func _ _ _ _ _ rfl rfl (fun i x y hx _ => by simp at hx) (fun i x y hx _ => by simp at hx)
theorem TR.put {tm : Tm} {a : Act} (ht : TR ρ tm a) {v v' : Value} (hv : VR ρ v v') (d : Option Tmp) : TR ρ (putT tm d v) (a.put d v') := by
  cases d with
  | none => exact ht
  | some d =>
    simp only [putT, Act.put, TR, setT_eq, Array.toList_setIfInBounds]
    refine ⟨by simpa using ht.1, fun i x y hx hy => ?_⟩
    have hl := ht.1
    rw [List.getElem?_set] at hx hy
    by_cases e : d = i
    · subst e
      rw [if_pos rfl] at hx hy
      split at hx
      · cases hx
        split at hy
        · cases hy; exact hv
        · cases hy
      · cases hx
    · rw [if_neg e] at hx hy
      exact ht.2 i x y hx hy
theorem TR.wanted {tm : Tm} {a : Act} (ht : TR ρ tm a) (ops : Array Oper) (o : Oper) : Region.wanted o (yielded ops a.tmps) = wantedT ops o tm := by
  unfold Region.wanted wantedT
  cases o.guard with
  | none => rfl
  | some g =>
    obtain ⟨j, want⟩ := g
    simp only
    have : yielded ops a.tmps j = guardVal tm ((ops[j]?).bind (·.dst)) := by
      unfold yielded guardVal
      cases hd : (ops[j]?).bind (·.dst) with
      | none => rfl
      | some d =>
        simp only [Option.bind_some]
        have hv := ht.get d
        cases hx : a.tmps[d]? with
        | none =>
          have h2 : a.tmps.size ≤ d := by simpa using hx
          have : getT tm d = undef := by
            rw [getT_eq, List.getD_eq_getElem?_getD, List.getElem?_eq_none (by have := ht.1; simp at this; omega)]; rfl
          rw [this]; rfl
        | some v' =>
          have : a.tmps.getD d undef = v' := by rw [Array.getD_eq_getD_getElem?, hx]; rfl
          rw [this] at hv
          generalize getT tm d = z at hv
          cases hv <;> rfl
    rw [this]

/-- One operation, wherever it stands. -/
theorem opEval_sound (hx : XOK P) (hN : NOK P) {J : Map → Heap → World → Prop} {k : Caller} (hk : KOK P NG B J k) (hh : HR NG B ρ h w) (hJ : J ρ h w) {o : Oper} {e : Operand → Value} {a : Act} {v : Value} {h' : Heap} (he : opEval P k o e h = some (v, h'))
    (hv : ∀ x, x ∈ o.op.operands → VR ρ (e x) (a.eval x)) : OpOK P NG B ρ h w o a v h' := by
  unfold opEval at he
  split at he
  · simp only [Option.map_eq_some_iff] at he
    obtain ⟨u, hq, heq⟩ := he
    cases heq
    obtain ⟨v', h1, h2⟩ := quiet_sound hh hq hv
    intro K Q hK
    unfold Oper.wp
    rw [h1]
    exact hK ρ w v' (.refl _ _ _ _) hh h2
  · split at he
    · simp only [Option.map_eq_some_iff] at he
      obtain ⟨n, hf, heq⟩ := he
      cases heq
      obtain ⟨c, h1, h2, h3⟩ := fresh_sound (w := w) hf hv
      obtain ⟨g1, g2⟩ := row_sound (n := n) (c := c.toArray) (fr := (0, 0)) (d := w.drawn) hh (.inl rfl) (by
        have := h2.1
        simp only []
        rw [List.take_of_length_le (by omega)]; exact h2) (by have := h2.1; simp; omega)
      intro K Q hK
      unfold Oper.wp
      rw [h1]
      refine hK _ _ _ g2 g1 (New.vr (upd_same _ _ _) fun l hl => ?_)
      have := h3 l hl
      simpa using this
    · exact effect_sound hx hN hk hh hJ he hv

theorem runOps_sound (hx : XOK P) (hN : NOK P) (hG : NG = P.globals.size) {J : Map → Heap → World → Prop} (hC : JC J) {k : Caller} (hk : KOK P NG B J k) {ops : Array Oper} {Q : Exit → Act → World → Prop} :
    ∀ (l : List Oper) (i : Nat) {tm tm' : Tm} {h h' : Heap} {ρ : Map} {w : World} {a : Act} (_ : l = ops.toList.drop i) (_ : runOps P k ops l tm h = some (tm', h')) (_ : ∀ o, o ∈ l → ∀ x, x ∈ o.op.operands → opdOk P x = true)
    (_ : HR NG B ρ h w) (_ : J ρ h w) (_ : TR ρ tm a) (_ : ∀ ρ' w' a', Step h.next ρ h w ρ' h' w' → HR NG B ρ' h' w' → TR ρ' tm' a' → a'.defers = a.defers → Q .normal a' w'),
    wpOps P ops Q (List.range' i l.length) a w := by
  intro l
  induction l with
  | nil =>
    intro i tm tm' h h' ρ w a _ hr _ hh _ ht hQ
    simp only [runOps, Option.some.injEq, Prod.mk.injEq] at hr
    obtain ⟨rfl, rfl⟩ := hr
    exact hQ ρ w a (.refl _ _ _ _) hh ht rfl
  | cons o l ih =>
    intro i tm tm' h h' ρ w a hl hr hok hh hJ ht hQ
    have hoi : ops[i]? = some o := by
      have : (ops.toList.drop i)[0]? = some o := by rw [← hl]; rfl
      rw [List.getElem?_drop] at this
      simpa using this
    have hl' : l = ops.toList.drop (i + 1) := by
      rw [← List.drop_drop, ← hl]; rfl
    simp only [List.length_cons, List.range'_succ]
    rw [wpOps_cons]
    unfold wpOp
    simp only [hoi]
    rw [ht.wanted]
    unfold runOps at hr
    split at hr
    · rename_i hw
      rw [if_pos hw]
      split at hr
      · rename_i v h2 he
        refine .inl ?_
        refine opEval_sound hx hN hk hh hJ he (fun x hx' => ht.eval hh hG (hok o (by simp) x hx')) _ _ fun ρ' w' v' s1 s2 s3 => ?_
        refine ih (i + 1) hl' hr (fun o' ho' => hok o' (by simp [ho'])) s2 (hC _ _ _ _ _ _ _ s1 hJ) ((ht.mono s1.ext).put s3 _) fun ρ2 w2 a2 q1 q2 q3 q4 => ?_
        exact hQ ρ2 w2 a2 (s1.seq q1) q2 q3 (by rw [q4]; cases o.dst <;> rfl)
      · cases hr
    · rename_i hw
      rw [if_neg hw]
      refine ih (i + 1) hl' hr (fun o' ho' => hok o' (by simp [ho'])) hh hJ (ht.put (VR.undef _) _) fun ρ2 w2 a2 q1 q2 q3 q4 => ?_
      exact hQ ρ2 w2 a2 q1 q2 q3 (by rw [q4]; cases o.dst <;> rfl)

theorem region_sound (hx : XOK P) (hN : NOK P) (hG : NG = P.globals.size) {J : Map → Heap → World → Prop} (hC : JC J) {k : Caller} (hk : KOK P NG B J k) {ops : Array Oper} {Q : Exit → Act → World → Prop} {id : Nat} {tm tm' : Tm} {h h' : Heap} {ρ : Map} {w : World} {a : Act}
    (hr : runOps P k ops ops.toList tm h = some (tm', h')) (hok : opsOk P ops = true) (hh : HR NG B ρ h w) (hJ : J ρ h w) (ht : TR ρ tm a)
    (hQ : ∀ ρ' w' a', Step h.next ρ h w ρ' h' w' → HR NG B ρ' h' w' → TR ρ' tm' a' → a'.defers = a.defers → Q .normal a' w') : (Code.region id ops false).wp P Q a w := by
  refine wp_region ?_
  have := runOps_sound hx hN hG hC hk (Q := Q) ops.toList 0 (by simp) hr (fun o ho x hx' => by
    have h1 := List.all_eq_true.1 hok o ho
    exact List.all_eq_true.1 h1 x (by simpa using hx')) hh hJ ht hQ
  simpa [List.range_eq_range'] using this
end
end Go.AX
