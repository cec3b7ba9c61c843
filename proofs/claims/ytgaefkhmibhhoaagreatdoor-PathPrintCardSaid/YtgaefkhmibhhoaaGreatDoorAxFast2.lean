/- A part of the proof that rubriclaw22.PathPrint returns true for every path. -/
import Derived.Test.YtgaefkhmibhhoaaGreatDoorAxFast
set_option linter.unusedSimpArgs false
set_option linter.unusedVariables false
namespace Go.AX
open Go

/-! The same once more, in the form that costs the kernel least: each step picks a closed function by a recursor. -/
noncomputable def trG {α : Type} (t : Tr α) : Nat → Option α :=
  Tr.rec (fun _ => none) (fun v _ _ l r n => Nat.rec v (fun m _ => Nat.rec (l (m / 2)) (fun _ _ => r (m / 2)) (m % 2)) n) t
noncomputable def trS {α : Type} (x : α) (f : Nat) : Tr α → Nat → Tr α :=
  Nat.rec (fun t _ => t)
    (fun _ ih t n => Tr.rec (Nat.rec (.nd (some x) .lf .lf) (fun m _ => Nat.rec (.nd none (ih .lf (m / 2)) .lf) (fun _ _ => .nd none .lf (ih .lf (m / 2))) (m % 2)) n)
      (fun v l r _ _ => Nat.rec (.nd (some x) l r) (fun m _ => Nat.rec (.nd v (ih l (m / 2)) r) (fun _ _ => .nd v l (ih r (m / 2))) (m % 2)) n) t) f

theorem natRec_mod {β : Type} (a b : β) (m : Nat) : (Nat.rec a (fun _ _ => b) (m % 2) : β) = if m % 2 = 0 then a else b := by
  rcases Nat.mod_two_eq_zero_or_one m with h | h <;> rw [h] <;> rfl
theorem trG_eq {α : Type} (t : Tr α) : ∀ n, trG t n = t.get n := by
  induction t with
  | lf => intro n; rw [Tr.get_lf]; rfl
  | nd v l r ihl ihr =>
    intro n
    rw [Tr.get_nd]
    cases n with
    | zero => rfl
    | succ m =>
      rw [if_neg (by omega)]
      show (Nat.rec (trG l (m / 2)) (fun _ _ => trG r (m / 2)) (m % 2) : Option α) = _
      rw [natRec_mod, ihl, ihr]
      by_cases h : m % 2 = 0
      · rw [if_pos h, if_pos (by omega)]; congr 1; omega
      · rw [if_neg h, if_neg (by omega)]; congr 1
theorem trS_eq {α : Type} (x : α) : ∀ (f : Nat) (t : Tr α) (n : Nat), trS x f t n = Tr.set x f t n := by
  intro f
  induction f with
  | zero => intro t n; cases t <;> rfl
  | succ f ih =>
    intro t n
    have bq : ∀ a b : Nat, Nat.beq a b = decide (a = b) := fun a b => by
      cases h : Nat.beq a b with
      | true => simp [Nat.eq_of_beq_eq_true h]
      | false => simp [Nat.ne_of_beq_eq_false h]
    cases n with
    | zero => cases t <;> rfl
    | succ m =>
      cases t with
      | lf =>
        show (Nat.rec (Tr.nd none (trS x f .lf (m / 2)) .lf) (fun _ _ => Tr.nd none .lf (trS x f .lf (m / 2))) (m % 2) : Tr α) = _
        rw [natRec_mod, ih]
        simp only [Tr.set, Bool.cond_eq_ite, bq, Nat.add_eq_zero_iff, Nat.one_ne_zero, and_false, decide_false, Bool.false_eq_true, if_false, decide_eq_true_eq, Nat.add_sub_cancel]
        by_cases h : m % 2 = 0
        · rw [if_pos h, if_pos (by omega)]; congr 2; omega
        · rw [if_neg h, if_neg (by omega)]
      | nd v l r =>
        show (Nat.rec (Tr.nd v (trS x f l (m / 2)) r) (fun _ _ => Tr.nd v l (trS x f r (m / 2))) (m % 2) : Tr α) = _
        rw [natRec_mod, ih, ih]
        simp only [Tr.set, Bool.cond_eq_ite, bq, Nat.add_eq_zero_iff, Nat.one_ne_zero, and_false, decide_false, Bool.false_eq_true, if_false, decide_eq_true_eq, Nat.add_sub_cancel]
        by_cases h : m % 2 = 0
        · rw [if_pos h, if_pos (by omega)]; congr 2; omega
        · rw [if_neg h, if_neg (by omega)]

noncomputable def takeR (n : Nat) : List Value → Option (List Value) :=
  Nat.rec (fun _ => some []) (fun _ ih l => List.rec none (fun v l _ => Option.rec none (fun r => some (v :: r)) (ih l)) l) n
noncomputable def dropR (n : Nat) : List Value → List Value := Nat.rec (fun l => l) (fun _ ih l => List.rec [] (fun _ l _ => ih l) l) n
noncomputable def overR (l : List Value) : Nat → List Value → Option (List Value) :=
  List.rec (fun _ new => List.rec (some []) (fun _ _ _ => none) new)
    (fun x l ih o new => List.rec (some (x :: l)) (fun v new' _ => Nat.rec (Option.rec none (fun r => some (v :: r)) (ih 0 new')) (fun o _ => Option.rec none (fun r => some (x :: r)) (ih o (v :: new'))) o) new) l
theorem takeR_eq : ∀ n l, takeR n l = takeN n l := by
  intro n
  induction n with
  | zero => intro l; cases l <;> rfl
  | succ n ih =>
    intro l
    cases l with
    | nil => rfl
    | cons v l =>
      show (Option.rec none (fun r => some (v :: r)) (takeR n l) : Option (List Value)) = (takeN n l).map (v :: ·)
      rw [ih]; cases takeN n l <;> rfl
theorem dropR_eq : ∀ n l, dropR n l = dropN n l := by
  intro n
  induction n with
  | zero => intro l; cases l <;> rfl
  | succ n ih =>
    intro l
    cases l with
    | nil => rfl
    | cons v l => exact ih l
theorem overR_eq : ∀ l o new, overR l o new = over o l new := by
  intro l
  induction l with
  | nil => intro o new; cases new <;> rfl
  | cons x l ih =>
    intro o new
    cases new with
    | nil => rfl
    | cons v new =>
      cases o with
      | zero =>
        show (Option.rec none (fun r => some (v :: r)) (overR l 0 new) : Option (List Value)) = (over 0 l new).map (v :: ·)
        rw [ih]; cases over 0 l new <;> rfl
      | succ o =>
        show (Option.rec none (fun r => some (x :: r)) (overR l o (v :: new)) : Option (List Value)) = (over o l (v :: new)).map (x :: ·)
        rw [ih]; cases over o l (v :: new) <;> rfl

noncomputable def blkR (h : Heap) (x : Nat) : Option Blk := Option.rec none (fun o => AO.rec (fun b => some b) (fun _ _ => none) none o) (trG h.t x)
theorem blkR_eq (h : Heap) (x : Nat) : blkR h x = h.blk x := by
  unfold blkR Heap.blk Heap.get
  rw [trG_eq]
  cases h.t.get x with
  | none => rfl
  | some o => cases o <;> rfl
noncomputable def putR (h : Heap) (x : Nat) (o : AO) : Heap := ⟨trS o (x + 1) h.t x, h.next, h.fams⟩
theorem putR_eq (h : Heap) (x : Nat) (o : AO) : putR h x o = h.put x o := by unfold putR Heap.put; rw [trS_eq]
noncomputable def readR (h : Heap) (x o n : Nat) : Option (List Value) := Option.rec none (fun b => takeR n (dropR o b.cells)) (blkR h x)
theorem readR_eq (h : Heap) (x o n : Nat) : readR h x o n = h.read x o n := by
  unfold readR Heap.read
  rw [blkR_eq]
  cases h.blk x with
  | none => rfl
  | some b => simp only [takeR_eq, dropR_eq]
/-- One row alone in its family: nothing is to do. -/
noncomputable def onlyR (h : Heap) (f x : Nat) : Heap :=
  Option.rec (h.only f x) (fun l => List.rec (h.only f x) (fun y l _ => List.rec (bif Nat.beq y x then h else h.only f x) (fun _ _ _ => h.only f x) l) l) (trG h.fams f)
theorem onlyR_eq (h : Heap) (f x : Nat) : onlyR h f x = h.only f x := by
  unfold onlyR
  cases e : trG h.fams f with
  | none => rfl
  | some l =>
    cases l with
    | nil => rfl
    | cons y l =>
      cases l with
      | nil =>
        simp only []
        cases hb : Nat.beq y x with
        | false => rfl
        | true =>
          have hy := Nat.eq_of_beq_eq_true hb
          subst hy
          have : h.members f = [y] := by unfold Heap.members; rw [← trG_eq, e]; rfl
          simp [Heap.only, this]
      | cons z l => rfl
noncomputable def writeR (h : Heap) (x o : Nat) (new : List Value) : Option Heap :=
  Option.rec none (fun b => Bool.rec (Option.rec none (fun cells => some (putR (onlyR h b.fam x) x (.cells ⟨cells, b.elem, b.es, b.fam, b.ro⟩))) (overR b.cells o new)) none b.ro) (blkR h x)
theorem writeR_eq (h : Heap) (x o : Nat) (new : List Value) : writeR h x o new = h.write x o new := by
  unfold writeR Heap.write
  rw [blkR_eq]
  cases h.blk x with
  | none => rfl
  | some b =>
    simp only
    cases b.ro with
    | true => rfl
    | false =>
      simp only [overR_eq, onlyR_eq, putR_eq]
      cases over o b.cells new <;> rfl

section
variable (P : Program)
noncomputable def loadR (t : TypeId) (a : Addr) (h : Heap) : Option Value :=
  Option.rec none (fun g => Option.rec (Bool.rec (Option.rec none (fun l => List.rec none (fun v l _ => List.rec (some v) (fun _ _ _ => none) l) l) (readR h a.block a.off 1))
    (Option.rec none (fun n => Option.rec none (fun l => some (.agg l.toArray)) (readR h a.block a.off n)) (sizeOf P t)) g) (fun _ => none) a.spot) (isAgg P t)
theorem loadR_eq (t : TypeId) (a : Addr) (h : Heap) : loadR P t a h = loadVar P h t a := by
  unfold loadR loadVar
  cases isAgg P t with
  | none => rfl
  | some g =>
    cases a.spot with
    | some s => cases g <;> rfl
    | none =>
      cases g with
      | false =>
        simp only [readR_eq]
        cases h.read a.block a.off 1 with
        | none => rfl
        | some l => match l with
          | [] => rfl
          | [v] => rfl
          | _ :: _ :: _ => rfl
      | true =>
        simp only [readR_eq]
        cases sizeOf P t with
        | none => rfl
        | some n =>
          simp only [Option.bind_eq_bind, Option.bind_some]
          cases h.read a.block a.off n <;> rfl

abbrev Op1 := Caller → (Operand → Value) → Heap → Option (Value × Heap)
def oper (op : Op) : Oper := { dst := none, op, type := 0, pos := "", after := #[], guard := none }
noncomputable def o0 (op : Op) : Op1 := fun k ρ h => opEval P k (oper op) ρ h
noncomputable def oMove (x : Operand) : Op1 := fun _ ρ h => some (ρ x, h)
noncomputable def vBool {β : Type} (d : β) (f : Bool → β) (v : Value) : β := match v with | .bool b => f b | _ => d
noncomputable def vInt {β : Type} (d : β) (f : IntKind → Int → β) (v : Value) : β := match v with | .int k n => f k n | _ => d
noncomputable def vPtr {β : Type} (d : β) (f : Addr → β) (v : Value) : β := match v with | .pointer (some a) => f a | _ => d
noncomputable def vTup {β : Type} (d : β) (f : Array Value → β) (v : Value) : β := match v with | .tuple a => f a | _ => d
noncomputable def also (h : Heap) (v : Option Value) : Option (Value × Heap) := Option.rec none (fun v => some (v, h)) v
theorem also_eq (h : Heap) (v : Option Value) : also h v = v.map fun v => (v, h) := by cases v <;> rfl
noncomputable def rowR (n : Option New) (h : Heap) : Option (Value × Heap) :=
  Option.rec none (fun n => some (n.at h.next, ⟨trS (.cells ⟨n.cells, n.elem, n.es, h.next, false⟩) (h.next + 1) h.t h.next, h.next + 1, trS [h.next] (h.next + 1) h.fams h.next⟩)) n
theorem rowR_eq (n : Option New) (h : Heap) : rowR n h = n.map fun n => (n.at h.next, (h.row n.cells n.elem n.es).2) := by
  cases n with
  | none => rfl
  | some n => simp only [rowR, trS_eq]; rfl

noncomputable def fastI (op : BinOp) (c : Bool) (t : TypeId) : IntKind → Int → Int → Option Value :=
  BinOp.rec (fun k a b => some (.int k (k.wrap (a + b)))) (fun k a b => some (.int k (k.wrap (a - b)))) (fun k a b => binV P c .mul t (.int k a) (.int k b)) (fun k a b => binV P c .quo t (.int k a) (.int k b)) (fun k a b => binV P c .rem t (.int k a) (.int k b))
    (fun k a b => binV P c .and t (.int k a) (.int k b)) (fun k a b => binV P c .or t (.int k a) (.int k b)) (fun k a b => binV P c .xor t (.int k a) (.int k b)) (fun k a b => binV P c .shl t (.int k a) (.int k b)) (fun k a b => binV P c .shr t (.int k a) (.int k b)) (fun k a b => binV P c .andNot t (.int k a) (.int k b))
    (fun _ a b => some (.bool (a == b))) (fun _ a b => some (.bool (a != b))) (fun _ a b => some (.bool (a < b))) (fun _ a b => some (.bool (a ≤ b))) (fun _ a b => some (.bool (a > b))) (fun _ a b => some (.bool (a ≥ b))) op
theorem fastI_eq (op : BinOp) (c : Bool) (t : TypeId) (k : IntKind) (a b : Int) : fastI P op c t k a b = binV P c op t (.int k a) (.int k b) := by
  cases op <;> first | rfl | (simp [fastI, binV]; done)
noncomputable def binR (c : Bool) (op : BinOp) (t : TypeId) (x y : Value) : Option Value :=
  vInt (binV P c op t x y) (fun k a => vInt (binV P c op t x y) (fun k' b => Bool.rec (binV P c op t x y) (fastI P op c t k a b) (decide (k = k'))) y) x
theorem binR_eq (c : Bool) (op : BinOp) (t : TypeId) (x y : Value) : binR P c op t x y = binV P c op t x y := by
  unfold binR
  cases x <;> try rfl
  cases y <;> try rfl
  rename_i k a k' b
  simp only [vInt]
  by_cases e : k = k'
  · subst e
    simp only [decide_true, fastI_eq]
  · simp only [e, decide_false]

noncomputable def oPick (c a b : Operand) : Op1 := fun _ ρ h => vBool none (fun t => some (Bool.rec (ρ b) (ρ a) t, h)) (ρ c)
noncomputable def oLoad (t : TypeId) (a : Operand) : Op1 := fun _ ρ h => vPtr none (fun a => also h (loadR P t a h)) (ρ a)
noncomputable def oBin (op : BinOp) (t : TypeId) (x y : Operand) (_ : TypeId) : Op1 := fun _ ρ h => also h (binR P (Region.isConst x || Region.isConst y) op t (ρ x) (ρ y))
noncomputable def oUn (op : UnOp) (_ : TypeId) (x : Operand) : Op1 := fun _ ρ h => also h (unV op (ρ x))
noncomputable def oNil (x : Operand) : Op1 := fun _ ρ h => also h (nilV (ρ x))
noncomputable def oFieldAddr (s : TypeId) (x : Operand) (f : Nat) : Op1 := fun _ ρ h => also h (fieldAddrV P s (ρ x) f)
noncomputable def oIndexAddr (t : TypeId) (x i : Operand) : Op1 := fun _ ρ h => also h (indexAddrV P t (ρ x) (ρ i))
noncomputable def oBuild (t : TypeId) (parts : Array (Nat × Operand)) : Op1 := fun _ ρ h => also h (buildV P t (parts.toList.map fun (i, x) => (i, ρ x)))
noncomputable def oExtract (t : Operand) (i : Nat) : Op1 := fun _ ρ h => vTup none (fun vs => also h vs[i]?) (ρ t)
noncomputable def oAlloc (e : TypeId) : Op1 := fun _ _ h => rowR ((zeroOf P e).bind (newV P e)) h
noncomputable def oBox (e : TypeId) (x : Operand) : Op1 := fun _ ρ h => rowR (newV P e (ρ x)) h
noncomputable def oBuildSlice (t : TypeId) (len : Nat) (parts : Array (Nat × Operand)) : Op1 := fun _ ρ h => rowR (buildSliceV P t len (parts.toList.map fun (i, x) => (i, ρ x))) h
noncomputable def storeR (n : Nat) (a : Addr) (v : Value) (h : Heap) : Option (Value × Heap) :=
  bif a.spot.isSome || !Nat.beq v.cells.size n || Nat.beq n 0 || !v.cells.toList.all oneCell then none else Option.rec none (fun h => some (undef, h)) (writeR h a.block a.off v.cells.toList)
noncomputable def oStore (t : TypeId) (a v : Operand) : Op1 := fun _ ρ h => vPtr none (fun a => Option.rec none (fun n => storeR n a (ρ v) h) (sizeOf P t)) (ρ a)
noncomputable def oCall (c : Call) : Op1 :=
  Call.rec (fun callee args argTypes => Callee.rec (fun f k ρ h => callV P k (ρ f) (args.toList.map ρ) h) (fun recv m => o0 P (.call ⟨.invoke recv m, args, argTypes⟩)) (fun b => o0 P (.call ⟨.builtin b, args, argTypes⟩)) callee) c

noncomputable def opF (op : Op) : Op1 :=
  Op.rec oMove oMove oPick (oAlloc P) (oBox P) (oBuild P) (oBuildSlice P) (fun t m k v => o0 P (.insert t m k v)) (oLoad P) (oStore P) (fun g => o0 P (.ready g)) (fun g => o0 P (.waits g)) oNil (oBin P) oUn
    (fun s d x => o0 P (.convert s d x)) (fun d x => o0 P (.sliceToArrayPointer d x)) (fun t x => o0 P (.makeInterface t x)) (fun f a b => o0 P (.makeFunc f a b)) (fun t r => o0 P (.makeMap t r)) (fun t r => o0 P (.makeChan t r)) (fun t l c => o0 P (.makeSlice t l c))
    (fun t x l h m => o0 P (.slice t x l h m)) (oFieldAddr P) (fun t x f => o0 P (.field t x f)) (oIndexAddr P) (fun t x i => o0 P (.index t x i)) (fun t x i c => o0 P (.lookup t x i c)) (fun t m k v => o0 P (.mapUpdate t m k v)) (fun t m k => o0 P (.mapEntry t m k))
    (fun t m s v => o0 P (.entryStore t m s v)) (fun t x => o0 P (.range t x)) (fun i s => o0 P (.next i s)) (fun i => o0 P (.entry i)) (fun x t a c => o0 P (.typeAssert x t a c)) oExtract (oCall P) (fun c => o0 P (.go c)) (fun c => o0 P (.defer c)) (fun x => o0 P (.panic x))
    (fun c x => o0 P (.send c x)) (fun t c o => o0 P (.recv t c o)) (fun c b => o0 P (.select c b)) op

theorem opEval_oper (k : Caller) (o : Oper) (ρ : Operand → Value) (h : Heap) : opEval P k o ρ h = opEval P k (oper o.op) ρ h := rfl
theorem opF_eq (k : Caller) (op : Op) (ρ : Operand → Value) (h : Heap) : opF P op k ρ h = opEval P k (oper op) ρ h := by
  cases op <;> try rfl
  case pick c a b =>
    show vBool none (fun t => some (Bool.rec (ρ b) (ρ a) t, h)) (ρ c) = (match ρ c with | .bool t => some (if t then ρ a else ρ b) | _ => none).map fun v => (v, h)
    cases ρ c <;> try rfl
    rename_i b; cases b <;> rfl
  case alloc e => exact rowR_eq _ _
  case box e x => exact rowR_eq _ _
  case build t parts => exact also_eq _ _
  case buildSlice t len parts => exact rowR_eq _ _
  case load t a =>
    show vPtr none (fun a => also h (loadR P t a h)) (ρ a) = (match ρ a with | .pointer (some a) => loadVar P h t a | _ => none).map fun v => (v, h)
    cases ρ a <;> try rfl
    rename_i a; cases a with
    | none => rfl
    | some a => simp only [vPtr, loadR_eq, also_eq]
  case store t a v =>
    show vPtr none (fun a => Option.rec none (fun n => storeR n a (ρ v) h) (sizeOf P t)) (ρ a) = (storeV P t (ρ a) (ρ v) h).map fun h => (undef, h)
    unfold storeV
    cases ρ a <;> try rfl
    rename_i a; cases a with
    | none => rfl
    | some a =>
      simp only [vPtr]
      cases sizeOf P t with
      | none => rfl
      | some n =>
        simp only [storeR, Option.bind_eq_bind, Option.bind_some, writeR_eq]
        have bq : ∀ a b : Nat, Nat.beq a b = decide (a = b) := fun a b => by
          cases h : Nat.beq a b with
          | true => simp [Nat.eq_of_beq_eq_true h]
          | false => simp [Nat.ne_of_beq_eq_false h]
        by_cases hc : a.spot.isSome = true ∨ (ρ v).cells.size ≠ n ∨ n = 0 ∨ (!(ρ v).cells.toList.all oneCell) = true
        · rw [if_pos hc]
          have : (a.spot.isSome || !Nat.beq (ρ v).cells.size n || Nat.beq n 0 || !(ρ v).cells.toList.all oneCell) = true := by
            simp only [bq, Bool.or_eq_true, Bool.not_eq_true', decide_eq_false_iff_not, decide_eq_true_eq] at hc ⊢
            rcases hc with h | h | h | h
            · exact .inl (.inl (.inl h))
            · exact .inl (.inl (.inr h))
            · exact .inl (.inr h)
            · exact .inr h
          rw [this]; rfl
        · rw [if_neg hc]
          have : (a.spot.isSome || !Nat.beq (ρ v).cells.size n || Nat.beq n 0 || !(ρ v).cells.toList.all oneCell) = false := by
            simp only [not_or, ne_eq, Decidable.not_not, Bool.not_eq_true, Bool.not_eq_false'] at hc
            simp [bq, hc.1, hc.2.1, hc.2.2.1, hc.2.2.2]
          rw [this]
          cases h.write a.block a.off (ρ v).cells.toList <;> rfl
  case nilCheck x => exact also_eq _ _
  case binOp op t x y _ =>
    show also h (binR P (Region.isConst x || Region.isConst y) op t (ρ x) (ρ y)) = _
    rw [binR_eq, also_eq]; rfl
  case unOp op t x => exact also_eq _ _
  case fieldAddr s x f => exact also_eq _ _
  case indexAddr t x i => exact also_eq _ _
  case extract t i =>
    show vTup none (fun vs => also h vs[i]?) (ρ t) = (match ρ t with | .tuple vs => vs[i]? | _ => none).map fun v => (v, h)
    cases ρ t <;> try rfl
    simp only [vTup, also_eq]
  case call c =>
    obtain ⟨callee, args, argTypes⟩ := c
    cases callee <;> rfl
end
end Go.AX
