/- A part of the proof that rubriclaw22.PathPrint returns true for every path. -/
import Derived.Test.YtgaefkhmibhhoaaGreatDoorAxExt
set_option linter.unusedSimpArgs false
set_option linter.unusedVariables false
namespace Go.AX
open Go

/-! ### rules for runs at values that are not known -/
section
variable {P : Program} {S : Caller}

theorem withS_le {k k' : Caller} (h : KLe k k') : KLe (withS S k) (withS S k') := by
  intro f args hp r hr
  unfold withS at hr ⊢
  split at hr
  · rename_i r' hs; exact hr
  · exact h _ _ _ _ hr
theorem runOps_le {k k' : Caller} (hk : KLe k k') {ops : Array Oper} : ∀ (l : List Oper) {tm : Tm} {h : Heap} {r : Tm × Heap}, runOps P k ops l tm h = some r → runOps P k' ops l tm h = some r := by
  intro l
  induction l with
  | nil => intro tm h r hr; exact hr
  | cons o l ih =>
    intro tm h r hr
    unfold runOps at hr ⊢
    split at hr
    · rename_i hw
      rw [if_pos hw]
      split at hr
      · rename_i v h2 he
        rw [opEval_le hk he]
        exact ih hr
      · cases hr
    · rename_i hw
      rw [if_neg hw]
      exact ih hr
theorem stepIdx_le {k k' : Caller} (hk : KLe k k') {ops : Array Oper} {base i : Nat} {o : Oper} {r r' : Ran} (hs : stepIdx P k ops base i o r = some r') : stepIdx P k' ops base i o r = some r' := by
  unfold stepIdx at hs ⊢
  split at hs
  · rename_i hw
    rw [if_pos hw]
    split at hs
    · rename_i hq; rw [if_pos hq]; exact hs
    · rename_i hq
      rw [if_neg hq]
      split at hs
      · rename_i hf; rw [if_pos hf]; exact hs
      · rename_i hf
        rw [if_neg hf]
        split at hs
        · rename_i v h' he
          rw [effect_le hk he]; exact hs
        · cases hs
  · rename_i hw; rw [if_neg hw]; exact hs
theorem runIdx_le {k k' : Caller} (hk : KLe k k') {ops : Array Oper} {base : Nat} : ∀ (l : List Oper) (i : Nat) {r r' : Ran}, runIdx P k ops base i l r = some r' → runIdx P k' ops base i l r = some r' := by
  intro l
  induction l with
  | nil => intro i r r' h; exact h
  | cons o l ih =>
    intro i r r' h
    unfold runIdx at h ⊢
    split at h
    · rename_i r1 h1
      rw [stepIdx_le hk h1]
      exact ih _ h
    · cases h
theorem runDrawn_le {k k' : Caller} (hk : KLe k k') {ops : Array Oper} {tm : Tm} {h : Heap} {r : Tm × Heap} (hr : runDrawn P k ops tm h = some r) : runDrawn P k' ops tm h = some r := by
  unfold runDrawn at hr ⊢
  split at hr
  · rename_i ho
    rw [if_pos ho]
    split at hr
    · rename_i r1 h1
      rw [runIdx_le hk _ _ h1]
      exact hr
    · cases hr
  · cases hr
theorem callBody_le {run run' : Code → St → Option (AExit × St)} (h : ∀ c s r, run c s = some r → run' c s = some r) : KLe (callBody P run) (callBody P run') := by
  intro f args hp r hr
  unfold callBody at hr ⊢
  split at hr
  · cases hr
  · rename_i fn hf
    try rw [hf]
    try simp only
    split at hr
    · cases hr
    · rename_i c hc
      try rw [hc]
      try simp only
      split at hr
      · rename_i s hs; rw [h _ _ _ hs]; exact hr
      · rename_i s hs; rw [h _ _ _ hs]; exact hr
      · cases hr

theorem exec_le : ∀ n c s r, exec P S n c s = some r → exec P S (n + 1) c s = some r := by
  intro n
  induction n with
  | zero => intro c s r h; cases h
  | succ n ih =>
    intro c s r h
    cases c with
    | seq a b =>
      simp only [exec] at h
      rw [exec]
      split at h
      · rename_i s1 h1; rw [ih _ _ _ h1]; exact ih _ _ _ h
      · rename_i hne
        rw [ih _ _ _ h]
        obtain ⟨e, s'⟩ := r
        cases e with
        | normal => exact absurd h (hne s')
        | _ => rfl
    | cond c a b =>
      simp only [exec] at h
      rw [exec]
      split at h
      · rename_i hb; (try simp only [hb]); exact ih _ _ _ h
      · rename_i hb; (try simp only [hb]); exact ih _ _ _ h
      · cases h
    | block id c =>
      simp only [exec] at h
      rw [exec]
      split at h
      · rename_i i s1 h1; rw [ih _ _ _ h1]; exact h
      · rename_i hne
        rw [ih _ _ _ h]
        obtain ⟨e, s'⟩ := r
        cases e with
        | exit i => exact absurd h (hne i s')
        | _ => rfl
    | loop c =>
      simp only [exec] at h
      rw [exec]
      split at h
      · rename_i s1 h1; rw [ih _ _ _ h1]; exact ih _ _ _ h
      · rename_i hne
        rw [ih _ _ _ h]
        obtain ⟨e, s'⟩ := r
        cases e with
        | normal => exact absurd h (hne s')
        | _ => rfl
    | scope c => simp only [exec] at h; rw [exec]; exact ih _ _ _ h
    | region id ops draw =>
      simp only [exec] at h
      rw [exec]
      have hk := withS_le (S := S) (callBody_le (P := P) ih)
      split at h
      · rename_i hok
        rw [if_pos hok]
        cases draw with
        | true =>
          simp only [if_true] at h ⊢
          split at h
          · rename_i tm h2 hr; rw [runDrawn_le hk hr]; exact h
          · cases h
        | false =>
          simp only [Bool.false_eq_true, if_false] at h ⊢
          split at h
          · rename_i tm h2 hr; rw [runOps_le hk _ hr]; exact h
          · cases h
      · cases h
    | _ => exact h
theorem exec_mono {n m : Nat} (hnm : n ≤ m) {c : Code} {s : St} {r : AExit × St} (h : exec P S n c s = some r) : exec P S m c s = some r := by
  induction hnm with
  | refl => exact h
  | step _ ih => exact exec_le _ _ _ _ ih

variable (P S)
def W (c : Code) (s : St) (Q : AExit → St → Prop) : Prop := ∃ n e s', exec P S n c s = some (e, s') ∧ Q e s'
def RW (ops : Array Oper) (l : List Oper) (tm : Tm) (h : Heap) (Q : Tm → Heap → Prop) : Prop := ∃ tm' h', (∀ k, runOps P (withS S k) ops l tm h = some (tm', h')) ∧ Q tm' h'
variable {P S}
variable {Q : AExit → St → Prop} {s : St}

theorem W.mono {c : Code} {Q' : AExit → St → Prop} (h : W P S c s Q) (hq : ∀ e s, Q e s → Q' e s) : W P S c s Q' :=
  let ⟨n, e, s', h1, h2⟩ := h; ⟨n, e, s', h1, hq _ _ h2⟩
theorem W.skip (h : Q .normal s) : W P S .skip s Q := ⟨1, _, _, rfl, h⟩
theorem W.label {l : Nat} (h : Q .normal s) : W P S (.label l) s Q := ⟨1, _, _, rfl, h⟩
theorem W.exit {id : Nat} (h : Q (.exit id) s) : W P S (.exit id) s Q := ⟨1, _, _, rfl, h⟩
theorem W.ret (h : Q .ret s) : W P S .ret s Q := ⟨1, _, _, rfl, h⟩
/-- What comes behind. -/
def nxt (f : St → Prop) (Q : AExit → St → Prop) : AExit → St → Prop
  | .normal, s => f s
  | e, s => Q e s
theorem W.seq {a b : Code} (h : W P S a s (nxt (fun s => W P S b s Q) Q)) : W P S (.seq a b) s Q := by
  obtain ⟨n, e, s1, h1, h2⟩ := h
  cases e with
  | normal =>
    obtain ⟨m, e, s2, h3, h4⟩ := h2
    refine ⟨max n m + 1, e, s2, ?_, h4⟩
    rw [exec, exec_mono (Nat.le_max_left n m) h1]
    exact exec_mono (Nat.le_max_right n m) h3
  | exit i => exact ⟨n + 1, _, s1, by rw [exec, h1], h2⟩
  | ret => exact ⟨n + 1, _, s1, by rw [exec, h1], h2⟩
theorem W.loop {c : Code} (h : W P S c s (nxt (fun s => W P S (.loop c) s Q) Q)) : W P S (.loop c) s Q := by
  obtain ⟨n, e, s1, h1, h2⟩ := h
  cases e with
  | normal =>
    obtain ⟨m, e, s2, h3, h4⟩ := h2
    refine ⟨max n m + 1, e, s2, ?_, h4⟩
    rw [exec, exec_mono (Nat.le_max_left n m) h1]
    exact exec_mono (Nat.le_max_right n m) h3
  | exit i => exact ⟨n + 1, _, s1, by rw [exec, h1], h2⟩
  | ret => exact ⟨n + 1, _, s1, by rw [exec, h1], h2⟩
theorem W.cond {c : Operand} {a b : Code} {t : Bool} (hc : ev s.tm c = .bool t) (h : W P S (if t then a else b) s Q) : W P S (.cond c a b) s Q := by
  obtain ⟨n, e, s1, h1, h2⟩ := h
  refine ⟨n + 1, e, s1, ?_, h2⟩
  rw [exec, hc]
  cases t <;> exact h1
def blk (id : Nat) (Q : AExit → St → Prop) : AExit → St → Prop
  | .exit i, s => if i = id then Q .normal s else Q (.exit i) s
  | e, s => Q e s
theorem W.block {id : Nat} {c : Code} (h : W P S c s (blk id Q)) : W P S (.block id c) s Q := by
  obtain ⟨n, e, s1, h1, h2⟩ := h
  cases e with
  | normal => exact ⟨n + 1, _, s1, by rw [exec, h1], h2⟩
  | ret => exact ⟨n + 1, _, s1, by rw [exec, h1], h2⟩
  | exit i =>
    refine ⟨n + 1, _, s1, by rw [exec, h1], ?_⟩
    simp only [blk] at h2
    by_cases e : i = id
    · subst e; rw [if_pos rfl] at h2; simpa using h2
    · rw [if_neg e] at h2
      have : Nat.beq i id = false := by
        cases hb : Nat.beq i id with
        | false => rfl
        | true => exact absurd (Nat.eq_of_beq_eq_true hb) e
      simpa [this] using h2
theorem W.scope {c : Code} (h : W P S c s Q) : W P S (.scope c) s Q := let ⟨n, e, s1, h1, h2⟩ := h; ⟨n + 1, e, s1, by rw [exec]; exact h1, h2⟩
theorem W.region {id : Nat} {ops : Array Oper} {tm : Tm} {h : Heap} (hok : opsOk P ops = true) (hr : RW P S ops ops.toList tm h fun tm h => Q .normal ⟨tm, h⟩) : W P S (.region id ops false) ⟨tm, h⟩ Q := by
  obtain ⟨tm', h', h1, h2⟩ := hr
  refine ⟨1, _, _, ?_, h2⟩
  rw [exec, if_pos hok]
  simp only [Bool.false_eq_true, if_false]
  rw [h1]
theorem W.drawn {id : Nat} {ops : Array Oper} {tm tm' : Tm} {h h' : Heap} (hok : opsOk P ops = true) (hr : ∀ k, runDrawn P (withS S k) ops tm h = some (tm', h')) (hQ : Q .normal ⟨tm', h'⟩) : W P S (.region id ops true) ⟨tm, h⟩ Q := by
  refine ⟨1, _, _, ?_, hQ⟩
  rw [exec, if_pos hok]
  simp only [if_true]
  rw [hr]

theorem RW.nil {ops : Array Oper} {tm : Tm} {h : Heap} {Q : Tm → Heap → Prop} (hQ : Q tm h) : RW P S ops [] tm h Q := ⟨tm, h, fun _ => rfl, hQ⟩
theorem RW.op {ops : Array Oper} {o : Oper} {l : List Oper} {tm : Tm} {h h1 : Heap} {v : Value} {Q : Tm → Heap → Prop} (hw : wantedT ops o tm = true) (he : ∀ k, opEval P (withS S k) o (ev tm) h = some (v, h1))
    (hr : RW P S ops l (putT tm o.dst v) h1 Q) : RW P S ops (o :: l) tm h Q := by
  obtain ⟨tm', h', h2, h3⟩ := hr
  refine ⟨tm', h', fun k => ?_, h3⟩
  unfold runOps
  rw [if_pos hw, he]
  exact h2 k
theorem RW.skip {ops : Array Oper} {o : Oper} {l : List Oper} {tm : Tm} {h : Heap} {Q : Tm → Heap → Prop} (hw : wantedT ops o tm = false) (hr : RW P S ops l (putT tm o.dst undef) h Q) : RW P S ops (o :: l) tm h Q := by
  obtain ⟨tm', h', h2, h3⟩ := hr
  refine ⟨tm', h', fun k => ?_, h3⟩
  unfold runOps
  rw [if_neg (by simp [hw])]
  exact h2 k
/-- An operation that leaves the heap alone. -/
theorem RW.quiet {ops : Array Oper} {o : Oper} {l : List Oper} {tm : Tm} {h : Heap} {v : Value} {Q : Tm → Heap → Prop} (hw : wantedT ops o tm = true) (hq : isQuiet P o = true) (he : AX.quiet P o (ev tm) h = some v)
    (hr : RW P S ops l (putT tm o.dst v) h Q) : RW P S ops (o :: l) tm h Q :=
  .op hw (fun k => by unfold opEval; rw [if_pos hq, he]; rfl) hr
/-- A call of which is known what it does. -/
theorem RW.call {ops : Array Oper} {o : Oper} {l : List Oper} {tm : Tm} {h h1 : Heap} {v : Value} {Q : Tm → Heap → Prop} {f : Operand} {args : Array Operand} {ts : Array TypeId} {F : FuncId} {fn : Func} (hw : wantedT ops o tm = true)
    (ho : o.op = .call { callee := .value f, args, argTypes := ts }) (hf : ev tm f = .func (.func F) #[] #[]) (hfn : P.funcs[F]? = some fn) (hb : fn.body.isSome = true) (hs : S F (args.toList.map (ev tm)) h = some (v, h1))
    (hr : RW P S ops l (putT tm o.dst v) h1 Q) : RW P S ops (o :: l) tm h Q := by
  refine .op hw (fun k => ?_) hr
  have h1 : isQuiet P o = false := by unfold isQuiet; rw [ho]
  have h2 : isFresh o = false := by unfold isFresh; rw [ho]
  unfold opEval
  rw [h1, h2]
  simp only [Bool.false_eq_true, if_false]
  unfold effect
  rw [ho]
  simp only [callV, hf, callF, hfn, hb, if_true, withS, Array.toList_empty, List.nil_append, List.append_nil, hs]

/-- A body's run, as what a call comes to. -/
theorem callBody_of {F : FuncId} {fn : Func} {c : Code} {args : List Value} {h : Heap} {R : Value → Heap → Prop} (hf : P.funcs[F]? = some fn) (hb : fn.body = some c)
    (hw : W P S c ⟨args ++ List.replicate (fn.ntmps - args.length) undef, h⟩ fun e s => (e = .normal ∨ e = .ret) ∧ ∃ v, endOf P fn s = some (v, s.h) ∧ R v s.h) : ∃ n v h', callBody P (exec P S n) F args h = some (v, h') ∧ R v h' := by
  obtain ⟨n, e, s', h1, h2, v, h3, h4⟩ := hw
  refine ⟨n, v, s'.h, ?_, h4⟩
  unfold callBody
  rw [hf]
  simp only [hb, h1]
  rcases h2 with rfl | rfl <;> exact h3
end
end Go.AX
