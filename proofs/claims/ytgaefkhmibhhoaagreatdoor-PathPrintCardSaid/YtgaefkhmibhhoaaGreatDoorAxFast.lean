/- A part of the proof that rubriclaw22.PathPrint returns true for every path. -/
import Derived.Test.YtgaefkhmibhhoaaGreatDoorAxAwake
set_option linter.unusedSimpArgs false
set_option linter.unusedVariables false
namespace Go.AX
open Go Go.RowKit

/-! The same evaluator over frames that are trees: what the kernel runs. -/
noncomputable def frGet (t : Tr Value) : Nat → Option Value :=
  Tr.rec (fun _ => none) (fun v _ _ l r n => Nat.rec v (fun m _ => Nat.rec (l (m / 2)) (fun _ _ => r (m / 2)) (m % 2)) n) t
noncomputable def frSet (x : Value) (f : Nat) : Tr Value → Nat → Tr Value :=
  Nat.rec (fun t _ => t)
    (fun _ ih t n => Tr.rec (Nat.rec (.nd (some x) .lf .lf) (fun m _ => Nat.rec (.nd none (ih .lf (m / 2)) .lf) (fun _ _ => .nd none .lf (ih .lf (m / 2))) (m % 2)) n)
      (fun v l r _ _ => Nat.rec (.nd (some x) l r) (fun m _ => Nat.rec (.nd v (ih l (m / 2)) r) (fun _ _ => .nd v l (ih r (m / 2))) (m % 2)) n) t) f

theorem frGet_lf (n : Nat) : frGet .lf n = none := rfl
theorem frGet_zero (v : Option Value) (l r : Tr Value) : frGet (.nd v l r) 0 = v := rfl
theorem frGet_succ (v : Option Value) (l r : Tr Value) (m : Nat) : frGet (.nd v l r) (m + 1) = if m % 2 = 0 then frGet l (m / 2) else frGet r (m / 2) := by
  show (Nat.rec (frGet l (m / 2)) (fun _ _ => frGet r (m / 2)) (m % 2) : Option Value) = _
  rcases Nat.mod_two_eq_zero_or_one m with h | h <;> rw [h] <;> rfl
theorem frSet_nd_succ (x : Value) (f : Nat) (v : Option Value) (l r : Tr Value) (m : Nat) : frSet x (f + 1) (.nd v l r) (m + 1) = if m % 2 = 0 then .nd v (frSet x f l (m / 2)) r else .nd v l (frSet x f r (m / 2)) := by
  show (Nat.rec (Tr.nd v (frSet x f l (m / 2)) r) (fun _ _ => Tr.nd v l (frSet x f r (m / 2))) (m % 2) : Tr Value) = _
  rcases Nat.mod_two_eq_zero_or_one m with h | h <;> rw [h] <;> rfl
theorem frSet_lf_succ (x : Value) (f : Nat) (m : Nat) : frSet x (f + 1) .lf (m + 1) = if m % 2 = 0 then .nd none (frSet x f .lf (m / 2)) .lf else .nd none .lf (frSet x f .lf (m / 2)) := by
  show (Nat.rec (Tr.nd none (frSet x f .lf (m / 2)) .lf) (fun _ _ => Tr.nd none .lf (frSet x f .lf (m / 2))) (m % 2) : Tr Value) = _
  rcases Nat.mod_two_eq_zero_or_one m with h | h <;> rw [h] <;> rfl
theorem frGet_frSet (x : Value) : ∀ (f : Nat) (t : Tr Value) (n m : Nat), n < f → frGet (frSet x f t n) m = if m = n then some x else frGet t m := by
  intro f
  induction f with
  | zero => intro t n m h; omega
  | succ f ih =>
    intro t n m h
    have key : ∀ (v : Option Value) (l r s : Tr Value), (s = if (n - 1) % 2 = 0 then .nd v (frSet x f l ((n - 1) / 2)) r else .nd v l (frSet x f r ((n - 1) / 2))) → n ≠ 0 → frGet s m = if m = n then some x else frGet (.nd v l r) m := by
      intro v l r s hs hn
      subst hs
      cases m with
      | zero =>
        have h0 : ¬ (0 = n) := fun e => hn e.symm
        rw [if_neg h0]
        by_cases h1 : (n - 1) % 2 = 0
        · rw [if_pos h1]; rfl
        · rw [if_neg h1]; rfl
      | succ m =>
        by_cases h1 : (n - 1) % 2 = 0
        · rw [if_pos h1, frGet_succ, frGet_succ, ih _ _ _ (by omega)]
          by_cases hm : m % 2 = 0
          · rw [if_pos hm, if_pos hm]
            by_cases e : m + 1 = n
            · rw [if_pos e, if_pos (by omega)]
            · rw [if_neg e, if_neg (by omega)]
          · rw [if_neg hm, if_neg hm, if_neg (by omega)]
        · rw [if_neg h1, frGet_succ, frGet_succ, ih _ _ _ (by omega)]
          by_cases hm : m % 2 = 0
          · rw [if_pos hm, if_pos hm, if_neg (by omega)]
          · rw [if_neg hm, if_neg hm]
            by_cases e : m + 1 = n
            · rw [if_pos e, if_pos (by omega)]
            · rw [if_neg e, if_neg (by omega)]
    cases n with
    | zero =>
      have e : frSet x (f + 1) t 0 = match t with | .lf => .nd (some x) .lf .lf | .nd _ l r => .nd (some x) l r := by cases t <;> rfl
      rw [e]
      cases m with
      | zero => rw [if_pos rfl]; cases t <;> rfl
      | succ m =>
        rw [if_neg (by omega)]
        cases t with
        | lf => simp only []; rw [frGet_succ]; simp only [frGet_lf]; split <;> rfl
        | nd v l r => simp only []; rw [frGet_succ, frGet_succ]
    | succ n =>
      cases t with
      | lf =>
        rw [key none .lf .lf _ (frSet_lf_succ x f n) (by omega)]
        have : frGet (.nd none .lf .lf) m = none := by
          cases m with
          | zero => rfl
          | succ m => rw [frGet_succ]; split <;> rfl
        rw [this, frGet_lf]
      | nd v l r => exact key v l r _ (frSet_nd_succ x f v l r n) (by omega)

/-- A frame: a tree; 'z': how many temporaries there are. -/
abbrev Fr := Tr Value
noncomputable def fget (fr : Fr) (i : Nat) : Value := Option.rec undef (fun v => v) (frGet fr i)
noncomputable def fset (z : Nat) (fr : Fr) (i : Nat) (v : Value) : Fr := bif Nat.blt i z then frSet v (i + 1) fr i else fr
/-- So many values from one number on. -/
noncomputable def frOf (l : List Value) : Nat → Tr Value → Tr Value := List.rec (fun _ t => t) (fun v _ ih i t => ih (i + 1) (frSet v (i + 1) t i)) l

def FT (z : Nat) (fr : Fr) (tm : Tm) : Prop := z = tm.length ∧ ∀ i, fget fr i = getT tm i

theorem FT.set {z : Nat} {fr : Fr} {tm : Tm} (h : FT z fr tm) (d : Nat) (v : Value) : FT z (fset z fr d v) (setT tm d v) := by
  obtain ⟨h1, h2⟩ := h
  unfold fset
  cases hb : Nat.blt d z with
  | true =>
    have hlt : d < tm.length := by rw [← h1]; exact Nat.le_of_ble_eq_true hb
    refine ⟨by simp [setT_eq, h1], fun i => ?_⟩
    have := h2 i
    simp only [cond_true, fget, frGet_frSet _ _ _ _ _ (Nat.lt_succ_self d), getT_eq, setT_eq] at this ⊢
    by_cases e : i = d
    · subst e
      simp [List.getD_eq_getElem?_getD, hlt]
    · rw [if_neg e, this]
      rw [List.getD_eq_getElem?_getD, List.getD_eq_getElem?_getD, List.getElem?_set_ne (fun h => e h.symm)]
  | false =>
    have hge : tm.length ≤ d := by
      rw [← h1]
      rcases Nat.lt_or_ge d z with h | h
      · have : Nat.blt d z = true := Nat.ble_eq_true_of_le h
        rw [hb] at this; cases this
      · exact h
    refine ⟨by simp [setT_eq, h1], fun i => ?_⟩
    rw [setT_eq, List.set_eq_of_length_le hge]
    exact h2 i

theorem frGet_frOf : ∀ (l : List Value) (k : Nat) (t : Tr Value) (i : Nat), frGet (frOf l k t) i = if k ≤ i ∧ i < k + l.length then l[i - k]? else frGet t i := by
  intro l
  induction l with
  | nil => intro k t i; rw [if_neg (by simp only [List.length_nil]; omega)]; rfl
  | cons v l ih =>
    intro k t i
    show frGet (frOf l (k + 1) (frSet v (k + 1) t k)) i = _
    rw [ih, frGet_frSet _ _ _ _ _ (Nat.lt_succ_self k)]
    by_cases h1 : k + 1 ≤ i ∧ i < k + 1 + l.length
    · rw [if_pos h1, if_pos (by simp; omega)]
      have : i - k = (i - (k + 1)) + 1 := by omega
      rw [this]; rfl
    · rw [if_neg h1]
      by_cases e : i = k
      · subst e
        rw [if_pos rfl, if_pos (by simp)]
        simp
      · rw [if_neg e, if_neg (by simp only [List.length_cons]; omega)]

theorem FT.first (args : List Value) (n : Nat) (h : args.length ≤ n) : FT n (frOf args 0 .lf) (args ++ List.replicate (n - args.length) undef) := by
  refine ⟨by simp; omega, fun i => ?_⟩
  simp only [fget, frGet_frOf, getT_eq, List.getD_eq_getElem?_getD, frGet_lf]
  rw [List.getElem?_append]
  by_cases h : i < args.length
  · rw [if_pos (by omega), if_pos h]
    simp only [Nat.sub_zero, List.getElem?_eq_getElem h]
    rfl
  · rw [if_neg (by omega), if_neg h, List.getElem?_replicate]
    split <;> rfl

noncomputable def evF (fr : Fr) : Operand → Value
  | .tmp t => fget fr t
  | .const v => if closed v then v else undef
  | .global g => .pointer (some ⟨g, 0, none⟩)
  | .func f => .func (.func f) #[] #[]
theorem FT.ev {z : Nat} {fr : Fr} {tm : Tm} (h : FT z fr tm) : evF fr = AX.ev tm := by
  funext x
  cases x with
  | tmp t => exact h.2 t
  | _ => rfl

noncomputable def putF (z : Nat) (fr : Fr) (d : Option Tmp) (v : Value) : Fr :=
  match d with
  | some d => fset z fr d v
  | none => fr
theorem FT.put {z : Nat} {fr : Fr} {tm : Tm} (h : FT z fr tm) (d : Option Tmp) (v : Value) : FT z (putF z fr d v) (putT tm d v) := by
  cases d with
  | none => exact h
  | some d => exact h.set d v

noncomputable def guardF (fr : Fr) (d : Option Tmp) : Option Bool :=
  match d with
  | some d => match fget fr d with | .bool b => some b | _ => none
  | none => none
noncomputable def wantedF (ops : Array Oper) (o : Oper) (fr : Fr) : Bool :=
  match o.guard with
  | none => true
  | some (j, want) => guardF fr ((ops[j]?).bind (·.dst)) == some want
theorem FT.wanted {z : Nat} {fr : Fr} {tm : Tm} (h : FT z fr tm) (ops : Array Oper) (o : Oper) : wantedF ops o fr = wantedT ops o tm := by
  unfold wantedF wantedT
  cases o.guard with
  | none => rfl
  | some g =>
    simp only
    cases hd : (ops[g.1]?).bind (·.dst) with
    | none => rfl
    | some d => simp only [guardF, guardVal, h.2 d]; rfl

section
variable (P : Program)
noncomputable def runOpsF (z : Nat) (k : Caller) (ops : Array Oper) (l : List Oper) : Fr → Heap → Option (Fr × Heap) :=
  List.rec (fun fr h => some (fr, h)) (fun o _ ih fr h =>
    if wantedF ops o fr then
      match opEval P k o (evF fr) h with
      | some (v, h) => ih (putF z fr o.dst v) h
      | none => none
    else ih (putF z fr o.dst undef) h) l

structure SeenF where
  i : Nat
  o : Oper
  ev : Operand → Value
  v : Value
structure RanF where
  fr : Fr
  h : Heap
  pend : List (Nat × New)
  seen : List SeenF
  effs : List (Nat × Heap)

noncomputable def stepF (z : Nat) (k : Caller) (ops : Array Oper) (base i : Nat) (o : Oper) (r : RanF) : Option RanF :=
  if wantedF ops o r.fr then
    if isQuiet P o then
      match quiet P o (evF r.fr) r.h with
      | some v => some { r with fr := putF z r.fr o.dst v, seen := if looks o then ⟨i, o, evF r.fr, v⟩ :: r.seen else r.seen }
      | none => none
    else if isFresh o then
      match fresh P o (evF r.fr) with
      | some n => some { r with fr := putF z r.fr o.dst (n.at (base + i)), pend := (i, n) :: r.pend }
      | none => none
    else
      match effect P k o (evF r.fr) (r.h.layAll base (r.pend.filter fun x => ahead ops ops.size x.1 i)) with
      | some (v, h') => some { r with fr := putF z r.fr o.dst v, h := h', pend := r.pend.filter fun x => !ahead ops ops.size x.1 i, effs := (i, r.h) :: r.effs }
      | none => none
  else some { r with fr := putF z r.fr o.dst undef }
noncomputable def runIdxF (z : Nat) (k : Caller) (ops : Array Oper) (base : Nat) : Nat → List Oper → RanF → Option RanF
  | _, [], r => some r
  | i, o :: l, r =>
    match stepF P z k ops base i o r with
    | some r => runIdxF z k ops base (i + 1) l r
    | none => none
def holdsF (ops : Array Oper) (x : SeenF) : Heap → List (Nat × Heap) → Bool
  | behind, [] => holds1 behind
  | behind, (j, h) :: l => (ahead ops ops.size x.i j || holds1 behind) && (ahead ops ops.size j x.i || holdsF ops x h l)
where holds1 (h : Heap) : Bool := match quiet P x.o x.ev h with | some v => sameV v x.v | none => false
noncomputable def runDrawnF (z : Nat) (k : Caller) (ops : Array Oper) (fr : Fr) (h : Heap) : Option (Fr × Heap) :=
  if okOrder P ops then
    match runIdxF P z k ops h.next 0 ops.toList ⟨fr, { h with next := h.next + ops.size }, [], [], []⟩ with
    | some r => if r.effs.isEmpty || r.seen.all (fun x => holdsF P ops x r.h r.effs) then some (r.fr, r.h.layAll h.next r.pend) else none
    | none => none
  else none

structure StF where
  fr : Fr
  h : Heap
noncomputable def resF (s : StF) : ResultVar → Option Value
  | .tmp t => some (fget s.fr t)
  | .cell a t => match fget s.fr a with | .pointer (some a) => loadVar P s.h t a | _ => none
noncomputable def endF (fn : Func) (s : StF) : Option (Value × Heap) :=
  match fn.results.toList.mapM (resF P s) with
  | some [v] => some (v, s.h)
  | some vs => some (.tuple vs.toArray, s.h)
  | none => none
noncomputable def bodyF (run : Nat → Code → StF → Option (AExit × StF)) : Caller := fun f args h =>
  match P.funcs[f]? with
  | none => none
  | some fn =>
    match fn.body with
    | none => none
    | some c =>
      bif Nat.ble args.length fn.ntmps then
        match run fn.ntmps c ⟨frOf args 0 .lf, h⟩ with
        | some (.normal, s) => endF P fn s
        | some (.ret, s) => endF P fn s
        | _ => none
      else none

noncomputable def execF1 (run : Nat → Code → StF → Option (AExit × StF)) (z : Nat) (c : Code) (s : StF) : Option (AExit × StF) :=
    match c with
    | .skip => some (.normal, s)
    | .label _ => some (.normal, s)
    | .seq a b =>
      match run z a s with
      | some (.normal, s) => run z b s
      | r => r
    | .cond c a b =>
      match evF s.fr c with
      | .bool true => run z a s
      | .bool false => run z b s
      | _ => none
    | .block id c =>
      match run z c s with
      | some (.exit i, s) => some (bif Nat.beq i id then .normal else .exit i, s)
      | r => r
    | .loop c =>
      match run z c s with
      | some (.normal, s) => run z (.loop c) s
      | r => r
    | .scope c => run z c s
    | .exit id => some (.exit id, s)
    | .ret => some (.ret, s)
    | .region _ ops draw =>
      if opsOk P ops then
        match (if draw then runDrawnF P z (bodyF P run) ops s.fr s.h else runOpsF P z (bodyF P run) ops ops.toList s.fr s.h) with
        | some (fr, h) => some (.normal, ⟨fr, h⟩)
        | none => none
      else none
    | _ => none
noncomputable def execF (n : Nat) : Nat → Code → StF → Option (AExit × StF) := Nat.rec (fun _ _ _ => none) (fun _ ih z c s => execF1 P ih z c s) n
end

section
variable {P : Program}
/-- Whoever says more says the same. -/
def KLe (k k' : Caller) : Prop := ∀ f args h r, k f args h = some r → k' f args h = some r
theorem effect_le {k k' : Caller} (hk : KLe k k') {o : Oper} {e : Operand → Value} {h : Heap} {r : Value × Heap} (he : effect P k o e h = some r) : effect P k' o e h = some r := by
  unfold effect at he ⊢
  split at he <;> first | exact he | skip
  rename_i f args _ _ _
  unfold callV at he ⊢
  split at he
  · unfold callF at he ⊢
    split at he
    · split at he
      · rename_i hb
        simp only [hb, if_true]
        exact hk _ _ _ _ he
      · rename_i hb
        simp only [hb]
        exact he
    · cases he
  · cases he
theorem opEval_le {k k' : Caller} (hk : KLe k k') {o : Oper} {e : Operand → Value} {h : Heap} {r : Value × Heap} (he : opEval P k o e h = some r) : opEval P k' o e h = some r := by
  unfold opEval at he ⊢
  split at he
  · rename_i h1; rw [if_pos h1]; exact he
  · rename_i h1
    rw [if_neg h1]
    split at he
    · rename_i h2; rw [if_pos h2]; exact he
    · rename_i h2; rw [if_neg h2]; exact effect_le hk he

theorem runOps_sim {z : Nat} {k k' : Caller} (hk : KLe k k') {ops : Array Oper} : ∀ (l : List Oper) (fr fr' : Fr) (tm : Tm) (h h' : Heap), runOpsF P z k ops l fr h = some (fr', h') → FT z fr tm → ∃ tm', runOps P k' ops l tm h = some (tm', h') ∧ FT z fr' tm' := by
  intro l
  induction l with
  | nil =>
    intro fr fr' tm h h' hr hf
    cases hr
    exact ⟨tm, rfl, hf⟩
  | cons o l ih =>
    intro fr fr' tm h h' hr hf
    change (if wantedF ops o fr then (match opEval P k o (evF fr) h with | some (v, h) => runOpsF P z k ops l (putF z fr o.dst v) h | none => none) else runOpsF P z k ops l (putF z fr o.dst undef) h) = some (fr', h') at hr
    unfold runOps
    rw [hf.wanted] at hr
    split at hr
    · rename_i hw
      rw [if_pos hw]
      split at hr
      · rename_i v h2 he
        rw [hf.ev] at he
        rw [opEval_le hk he]
        exact ih _ _ _ _ _ hr (hf.put _ _)
      · cases hr
    · rename_i hw
      rw [if_neg hw]
      exact ih _ _ _ _ _ hr (hf.put _ _)

def Seen.toF (x : Seen) : SeenF := ⟨x.i, x.o, AX.ev x.tm, x.v⟩
structure RR (z : Nat) (rF : RanF) (r : Ran) : Prop where
  fr : FT z rF.fr r.tm
  h : rF.h = r.h
  pend : rF.pend = r.pend
  seen : rF.seen = r.seen.map Seen.toF
  effs : rF.effs = r.effs

theorem step_sim {z : Nat} {k k' : Caller} (hk : KLe k k') {ops : Array Oper} {base i : Nat} {o : Oper} {rF rF' : RanF} {r : Ran} (hs : stepF P z k ops base i o rF = some rF') (hr : RR z rF r) : ∃ r', stepIdx P k' ops base i o r = some r' ∧ RR z rF' r' := by
  obtain ⟨h1, h2, h3, h4, h5⟩ := hr
  unfold stepF at hs
  unfold stepIdx
  rw [h1.wanted, h1.ev, h2, h3] at hs
  split at hs
  · rename_i hw
    rw [if_pos hw]
    split at hs
    · rename_i hq
      rw [if_pos hq]
      split at hs
      · rename_i v hv
        cases hs
        rw [hv]
        refine ⟨_, rfl, h1.put _ _, rfl, rfl, ?_, h5⟩
        simp only [h4]
        split <;> rfl
      · cases hs
    · rename_i hq
      rw [if_neg hq]
      split at hs
      · rename_i hfr
        rw [if_pos hfr]
        split at hs
        · rename_i n hn
          cases hs
          rw [hn]
          exact ⟨_, rfl, h1.put _ _, rfl, rfl, h4, h5⟩
        · cases hs
      · rename_i hfr
        rw [if_neg hfr]
        split at hs
        · rename_i v h' he
          cases hs
          rw [effect_le hk he]
          exact ⟨_, rfl, h1.put _ _, rfl, rfl, h4, by simp only [h5]⟩
        · cases hs
  · rename_i hw
    rw [if_neg hw]
    cases hs
    exact ⟨_, rfl, h1.put _ _, rfl, rfl, h4, h5⟩
theorem runIdx_sim {z : Nat} {k k' : Caller} (hk : KLe k k') {ops : Array Oper} {base : Nat} : ∀ (l : List Oper) (i : Nat) (rF rF' : RanF) (r : Ran), runIdxF P z k ops base i l rF = some rF' → RR z rF r → ∃ r', runIdx P k' ops base i l r = some r' ∧ RR z rF' r' := by
  intro l
  induction l with
  | nil => intro i rF rF' r h hr; cases h; exact ⟨r, rfl, hr⟩
  | cons o l ih =>
    intro i rF rF' r h hr
    unfold runIdxF at h
    unfold runIdx
    split at h
    · rename_i r1 h1
      obtain ⟨r2, g1, g2⟩ := step_sim hk h1 hr
      rw [g1]
      exact ih _ _ _ _ h g2
    · cases h
theorem holds_sim {ops : Array Oper} (x : Seen) : ∀ (l : List (Nat × Heap)) (h : Heap), holdsF P ops x.toF h l = holdsAt P ops x h l := by
  intro l
  induction l with
  | nil => intro h; rfl
  | cons p l ih =>
    intro h
    obtain ⟨j, g⟩ := p
    unfold holdsF holdsAt
    rw [ih]
    rfl
theorem runDrawn_sim {z : Nat} {k k' : Caller} (hk : KLe k k') {ops : Array Oper} {fr fr' : Fr} {tm : Tm} {h h' : Heap} (hr : runDrawnF P z k ops fr h = some (fr', h')) (hf : FT z fr tm) : ∃ tm', runDrawn P k' ops tm h = some (tm', h') ∧ FT z fr' tm' := by
  unfold runDrawnF at hr
  unfold runDrawn
  split at hr
  · rename_i ho
    rw [if_pos ho]
    split at hr
    · rename_i r hrun
      obtain ⟨r', g1, g2⟩ := runIdx_sim hk _ _ _ _ ⟨tm, { h with next := h.next + ops.size }, [], [], []⟩ hrun ⟨hf, rfl, rfl, rfl, rfl⟩
      rw [g1]
      simp only
      obtain ⟨q1, q2, q3, q4, q5⟩ := g2
      have e : (r.effs.isEmpty || r.seen.all (fun x => holdsF P ops x r.h r.effs)) = (r'.effs.isEmpty || r'.seen.all (fun x => holdsAt P ops x r'.h r'.effs)) := by
        rw [q2, q4, q5, List.all_map]
        congr 2
        funext x
        exact holds_sim x _ _
      rw [e] at hr
      split at hr
      · rename_i hc
        rw [if_pos hc]
        cases hr
        exact ⟨r'.tm, by rw [q2, q3], q1⟩
      · cases hr
    · cases hr
  · cases hr

def RunLe (runF : Nat → Code → StF → Option (AExit × StF)) (run : Code → St → Option (AExit × St)) : Prop :=
  ∀ z c fr h e s', runF z c ⟨fr, h⟩ = some (e, s') → ∀ tm, FT z fr tm → ∃ tm', run c ⟨tm, h⟩ = some (e, ⟨tm', s'.h⟩) ∧ FT z s'.fr tm'

theorem endF_eq {z : Nat} {s : StF} {tm : Tm} (hf : FT z s.fr tm) (fn : Func) : endF P fn s = endOf P fn ⟨tm, s.h⟩ := by
  unfold endF endOf
  have : resF P s = resOf P ⟨tm, s.h⟩ := by
    funext r
    cases r with
    | tmp t => simp only [resF, resOf, hf.2 t]
    | cell a t => simp only [resF, resOf, hf.2 a]; rfl
  rw [this]
  rfl
theorem body_le {runF : Nat → Code → StF → Option (AExit × StF)} {run : Code → St → Option (AExit × St)} (hr : RunLe runF run) : KLe (bodyF P runF) (callBody P run) := by
  intro f args h r hk
  unfold bodyF at hk
  unfold callBody
  split at hk
  · cases hk
  · rename_i fn hfn
    rw [hfn]
    simp only
    split at hk
    · cases hk
    · rename_i c hc
      rw [hc]
      simp only
      cases hb : Nat.ble args.length fn.ntmps with
      | false => rw [hb] at hk; cases hk
      | true =>
        rw [hb] at hk
        simp only [cond_true] at hk
        have hle := Nat.le_of_ble_eq_true hb
        split at hk
        · rename_i s hs
          obtain ⟨tm', g1, g2⟩ := hr fn.ntmps c _ _ _ _ hs _ (FT.first args fn.ntmps hle)
          rw [g1]
          rw [endF_eq g2] at hk
          exact hk
        · rename_i s hs
          obtain ⟨tm', g1, g2⟩ := hr fn.ntmps c _ _ _ _ hs _ (FT.first args fn.ntmps hle)
          rw [g1]
          rw [endF_eq g2] at hk
          exact hk
        · cases hk

theorem exec_sim : ∀ n, RunLe (execF P n) (exec P S0 n) := by
  intro n
  induction n with
  | zero => intro z c fr h e s' hr; cases hr
  | succ n ih =>
    intro z c fr h e s' hr tm hf
    change execF1 P (execF P n) z c ⟨fr, h⟩ = some (e, s') at hr
    cases c with
    | skip => cases hr; exact ⟨tm, rfl, hf⟩
    | label l => cases hr; exact ⟨tm, rfl, hf⟩
    | exit id => cases hr; exact ⟨tm, rfl, hf⟩
    | ret => cases hr; exact ⟨tm, rfl, hf⟩
    | seq x y =>
      simp only [execF1] at hr
      simp only [exec]
      split at hr
      · rename_i s1 h1
        obtain ⟨tm1, g1, g2⟩ := ih _ _ _ _ _ _ h1 tm hf
        rw [g1]
        exact ih _ _ _ _ _ _ hr tm1 g2
      · rename_i hne
        obtain ⟨tm1, g1, g2⟩ := ih _ _ _ _ _ _ hr tm hf
        refine ⟨tm1, ?_, g2⟩
        rw [g1]
        cases e with
        | normal => exact absurd hr (hne s')
        | _ => rfl
    | cond c x y =>
      simp only [execF1] at hr
      simp only [exec]
      rw [hf.ev] at hr
      split at hr
      · rename_i hb
        simp only [hb]
        exact ih _ _ _ _ _ _ hr tm hf
      · rename_i hb
        simp only [hb]
        exact ih _ _ _ _ _ _ hr tm hf
      · cases hr
    | block id c =>
      simp only [execF1] at hr
      simp only [exec]
      split at hr
      · rename_i i s1 h1
        cases hr
        obtain ⟨tm1, g1, g2⟩ := ih _ _ _ _ _ _ h1 tm hf
        rw [g1]
        exact ⟨tm1, rfl, g2⟩
      · rename_i hne
        obtain ⟨tm1, g1, g2⟩ := ih _ _ _ _ _ _ hr tm hf
        refine ⟨tm1, ?_, g2⟩
        rw [g1]
        cases e with
        | exit i => exact absurd hr (hne i s')
        | _ => rfl
    | loop c =>
      simp only [execF1] at hr
      simp only [exec]
      split at hr
      · rename_i s1 h1
        obtain ⟨tm1, g1, g2⟩ := ih _ _ _ _ _ _ h1 tm hf
        rw [g1]
        exact ih _ _ _ _ _ _ hr tm1 g2
      · rename_i hne
        obtain ⟨tm1, g1, g2⟩ := ih _ _ _ _ _ _ hr tm hf
        refine ⟨tm1, ?_, g2⟩
        rw [g1]
        cases e with
        | normal => exact absurd hr (hne s')
        | _ => rfl
    | scope c =>
      simp only [execF1] at hr
      simp only [exec]
      exact ih _ _ _ _ _ _ hr tm hf
    | region id ops draw =>
      simp only [execF1] at hr
      simp only [exec]
      split at hr
      · rename_i hok
        rw [if_pos hok]
        split at hr
        · rename_i fr2 h2 hrun
          cases hr
          cases draw with
          | true =>
            obtain ⟨tm', g1, g2⟩ := runDrawn_sim (body_le ih) hrun hf
            refine ⟨tm', ?_, g2⟩
            show (match runDrawn P (callBody P (exec P S0 n)) ops tm h with | some (tm, h) => some (AExit.normal, (⟨tm, h⟩ : St)) | none => none) = _
            rw [g1]
          | false =>
            obtain ⟨tm', g1, g2⟩ := runOps_sim (body_le ih) _ _ _ _ _ _ hrun hf
            refine ⟨tm', ?_, g2⟩
            show (match runOps P (callBody P (exec P S0 n)) ops ops.toList tm h with | some (tm, h) => some (AExit.normal, (⟨tm, h⟩ : St)) | none => none) = _
            rw [g1]
        · cases hr
      · cases hr
    | _ => cases hr
end

noncomputable def awakeF (P : Program) (n : Nat) (f : FuncId) : Bool :=
  match bodyF P (execF P n) f [] ⟨.lf, P.globals.size, .lf⟩ with
  | some (.bool b, _) => b
  | _ => false
theorem awakeF_ok {P : Program} {n : Nat} {f : FuncId} (h : awakeF P n f = true) : awakeOk P n f = true := by
  unfold awakeF at h
  unfold awakeOk
  split at h
  · rename_i b h' hk
    rw [body_le (exec_sim n) _ _ _ _ hk]
    exact h
  · cases h
end Go.AX
