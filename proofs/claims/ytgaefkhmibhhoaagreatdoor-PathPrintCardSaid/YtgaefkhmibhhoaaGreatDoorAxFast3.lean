/- A part of the proof that rubriclaw22.PathPrint returns true for every path. -/
import Derived.Test.YtgaefkhmibhhoaaGreatDoorAxFast2
set_option linter.unusedSimpArgs false
set_option linter.unusedVariables false
namespace Go.AX
open Go

noncomputable def evG (fr : Fr) (x : Operand) : Value :=
  Operand.rec (motive := fun _ => Fr → Value) (fun t fr => fget fr t) (fun v _ => bif closed v then v else undef) (fun g _ => .pointer (some ⟨g, 0, none⟩)) (fun f _ => .func (.func f) #[] #[]) x fr
theorem evG_eq (fr : Fr) : evG fr = evF fr := by
  funext x
  cases x with
  | const v => show (bif closed v then v else undef) = if closed v then v else undef; cases closed v <;> rfl
  | _ => rfl
noncomputable def putG (z : Nat) (fr : Fr) (d : Option Tmp) (v : Value) : Fr := Option.rec fr (fun d => fset z fr d v) d
theorem putG_eq (z : Nat) (fr : Fr) (d : Option Tmp) (v : Value) : putG z fr d v = putF z fr d v := by cases d <;> rfl

section
variable (P : Program)
noncomputable def goOp (z : Nat) (k : Caller) (dst : Option Tmp) (op : Op) (ih : Fr → Heap → Option (Fr × Heap)) (fr : Fr) (h : Heap) : Option (Fr × Heap) :=
  Option.rec none (fun p => Prod.rec (fun v h => ih (putG z fr dst v) h) p) (opF P op k (evG fr) h)
noncomputable def oneOp (z : Nat) (k : Caller) (ops : Array Oper) (o : Oper) (ih : Fr → Heap → Option (Fr × Heap)) (fr : Fr) (h : Heap) : Option (Fr × Heap) :=
  Option.rec (goOp P z k o.dst o.op ih fr h) (fun _ => Bool.rec (ih (putG z fr o.dst undef) h) (goOp P z k o.dst o.op ih fr h) (wantedF ops o fr)) o.guard
noncomputable def runOpsG (z : Nat) (k : Caller) (ops : Array Oper) (l : List Oper) : Fr → Heap → Option (Fr × Heap) :=
  List.rec (fun fr h => some (fr, h)) (fun o _ ih fr h => oneOp P z k ops o ih fr h) l

theorem runOpsG_eq (z : Nat) (k : Caller) (ops : Array Oper) : ∀ (l : List Oper) (fr : Fr) (h : Heap), runOpsG P z k ops l fr h = runOpsF P z k ops l fr h := by
  intro l
  induction l with
  | nil => intro fr h; rfl
  | cons o l ih =>
    intro fr h
    show oneOp P z k ops o (runOpsG P z k ops l) fr h = (if wantedF ops o fr then (match opEval P k o (evF fr) h with | some (v, h) => runOpsF P z k ops l (putF z fr o.dst v) h | none => none) else runOpsF P z k ops l (putF z fr o.dst undef) h)
    have hgo : goOp P z k o.dst o.op (runOpsG P z k ops l) fr h = (match opEval P k o (evF fr) h with | some (v, h) => runOpsF P z k ops l (putF z fr o.dst v) h | none => none) := by
      unfold goOp
      rw [opF_eq, evG_eq, ← opEval_oper]
      cases opEval P k o (evF fr) h with
      | none => rfl
      | some p => obtain ⟨v, h⟩ := p; simp only [putG_eq, ih]
    unfold oneOp
    cases hg : o.guard with
    | none =>
      have hw : wantedF ops o fr = true := by unfold wantedF; rw [hg]
      rw [if_pos hw]
      exact hgo
    | some g =>
      simp only
      cases hw : wantedF ops o fr with
      | true => rw [if_pos rfl]; exact hgo
      | false => rw [if_neg (by simp)]; simp only [putG_eq, ih]

noncomputable def thenG (r : Option (AExit × StF)) (f : StF → Option (AExit × StF)) : Option (AExit × StF) :=
  Option.rec none (fun p => Prod.rec (fun e s => AExit.rec (f s) (fun i => some (.exit i, s)) (some (.ret, s)) e) p) r
theorem thenG_eq (r : Option (AExit × StF)) (f : StF → Option (AExit × StF)) : thenG r f = match r with | some (.normal, s) => f s | r => r := by
  cases r with
  | none => rfl
  | some p => obtain ⟨e, s⟩ := p; cases e <;> rfl
noncomputable def blockG (id : Nat) (r : Option (AExit × StF)) : Option (AExit × StF) :=
  Option.rec none (fun p => Prod.rec (fun e s => AExit.rec (some (.normal, s)) (fun i => some (bif Nat.beq i id then .normal else .exit i, s)) (some (.ret, s)) e) p) r
theorem blockG_eq (id : Nat) (r : Option (AExit × StF)) : blockG id r = match r with | some (.exit i, s) => some (bif Nat.beq i id then .normal else .exit i, s) | r => r := by
  cases r with
  | none => rfl
  | some p => obtain ⟨e, s⟩ := p; cases e <;> rfl

abbrev Run := Nat → Code → StF → Option (AExit × StF)
noncomputable def cRegion (ops : Array Oper) (draw : Bool) (run : Run) (z : Nat) (s : StF) (body : Run → Caller) : Option (AExit × StF) :=
  Bool.rec none (Option.rec none (fun p => Prod.rec (fun fr h => some (.normal, ⟨fr, h⟩)) p)
    (Bool.rec (runOpsG P z (body run) ops ops.toList s.fr s.h) (runDrawnF P z (body run) ops s.fr s.h) draw)) (opsOk P ops)
noncomputable def resG (s : StF) (r : ResultVar) : Option Value :=
  ResultVar.rec (motive := fun _ => StF → Option Value) (fun t s => some (fget s.fr t)) (fun a t s => vPtr none (fun a => loadR P t a s.h) (fget s.fr a)) r s
noncomputable def endG (fn : Func) (s : StF) : Option (Value × Heap) :=
  match fn.results.toList.mapM (resG P s) with
  | some [v] => some (v, s.h)
  | some vs => some (.tuple vs.toArray, s.h)
  | none => none
theorem endG_eq (fn : Func) (s : StF) : endG P fn s = endF P fn s := by
  have : resG P s = resF P s := by
    funext r
    cases r with
    | tmp t => rfl
    | cell a t =>
      show vPtr none (fun a => loadR P t a s.h) (fget s.fr a) = match fget s.fr a with | .pointer (some a) => loadVar P s.h t a | _ => none
      cases fget s.fr a <;> try rfl
      rename_i a; cases a with
      | none => rfl
      | some a => exact loadR_eq P t a s.h
  unfold endG endF
  rw [this]
  rfl
noncomputable def callG (run : Run) (fn : Func) (c : Code) (args : List Value) (h : Heap) : Option (Value × Heap) :=
  bif Nat.ble args.length fn.ntmps then
    Option.rec none (fun p => Prod.rec (fun e s => AExit.rec (endG P fn s) (fun _ => none) (endG P fn s) e) p) (run fn.ntmps c ⟨frOf args 0 .lf, h⟩)
  else none
noncomputable def bodyG (run : Run) : Caller := fun f args h =>
  Option.rec none (fun fn => Option.rec none (fun c => callG P run fn c args h) fn.body) (P.funcs[f]?)
theorem bodyG_eq (run : Run) : bodyG P run = bodyF P run := by
  funext f args h
  unfold bodyG bodyF
  cases P.funcs[f]? with
  | none => rfl
  | some fn =>
    simp only
    cases fn.body with
    | none => rfl
    | some c =>
      simp only [callG]
      cases Nat.ble args.length fn.ntmps with
      | false => rfl
      | true =>
        simp only [cond_true]
        cases run fn.ntmps c ⟨frOf args 0 .lf, h⟩ with
        | none => rfl
        | some p => obtain ⟨e, s⟩ := p; cases e <;> simp only [endG_eq]

noncomputable def execG1 (c : Code) : Run → Nat → StF → Option (AExit × StF) :=
  Code.rec (motive := fun _ => Run → Nat → StF → Option (AExit × StF))
    (fun _ _ s => some (.normal, s))
    (fun _ ops draw run z s => cRegion P ops draw run z s (bodyG P))
    (fun a b _ _ run z s => thenG (run z a s) (run z b))
    (fun c a b _ _ run z s => vBool none (fun t => Bool.rec (run z b s) (run z a s) t) (evG s.fr c))
    (fun id c _ run z s => blockG id (run z c s))
    (fun c _ run z s => thenG (run z c s) (run z (.loop c)))
    (fun _ _ _ _ _ _ _ _ _ => none)
    (fun id _ _ s => some (.exit id, s))
    (fun c _ run z s => run z c s)
    (fun _ _ _ s => some (.normal, s))
    (fun _ _ _ _ => none)
    (fun _ _ s => some (.ret, s))
    (fun _ _ _ _ => none) c
theorem execG1_eq (c : Code) (run : Run) (z : Nat) (s : StF) : execG1 P c run z s = execF1 P run z c s := by
  cases c <;> try rfl
  case region id ops draw =>
    show cRegion P ops draw run z s (bodyG P) = if opsOk P ops then _ else _
    unfold cRegion
    rw [bodyG_eq]
    cases opsOk P ops with
    | false => rfl
    | true =>
      rw [if_pos rfl]
      cases draw with
      | true =>
        simp only [if_true]
        cases runDrawnF P z (bodyF P run) ops s.fr s.h with
        | none => rfl
        | some p => rfl
      | false =>
        simp only [runOpsG_eq, Bool.false_eq_true, if_false]
        cases runOpsF P z (bodyF P run) ops ops.toList s.fr s.h with
        | none => rfl
        | some p => rfl
  case seq a b => exact thenG_eq _ _
  case loop c => exact thenG_eq _ _
  case block id c => exact blockG_eq _ _
  case cond c a b =>
    show vBool none (fun t => Bool.rec (run z b s) (run z a s) t) (evG s.fr c) = _
    rw [evG_eq]
    simp only [execF1]
    cases evF s.fr c <;> try rfl
    rename_i t; cases t <;> rfl
noncomputable def execG (n : Nat) : Run := Nat.rec (fun _ _ _ => none) (fun _ ih z c s => execG1 P c ih z s) n
theorem execG_eq : ∀ n, execG P n = execF P n := by
  intro n
  induction n with
  | zero => rfl
  | succ n ih =>
    funext z c s
    show execG1 P c (execG P n) z s = execF1 P (execF P n) z c s
    rw [ih, execG1_eq]
noncomputable def awakeG (n : Nat) (f : FuncId) : Bool :=
  Option.rec false (fun p => vBool false (fun b => b) p.1) (bodyG P (execG P n) f [] ⟨.lf, P.globals.size, .lf⟩)
theorem awakeG_ok {n : Nat} {f : FuncId} (h : awakeG P n f = true) : awakeOk P n f = true := by
  refine awakeF_ok ?_
  unfold awakeG at h
  unfold awakeF
  rw [bodyG_eq, execG_eq] at h
  cases hb : bodyF P (execF P n) f [] ⟨.lf, P.globals.size, .lf⟩ with
  | none => rw [hb] at h; cases h
  | some p =>
    rw [hb] at h
    obtain ⟨v, h'⟩ := p
    cases v <;> first | exact h | cases h
end
end Go.AX
