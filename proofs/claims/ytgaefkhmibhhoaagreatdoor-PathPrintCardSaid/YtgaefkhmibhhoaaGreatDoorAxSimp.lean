/- A part of the proof that rubriclaw22.PathPrint returns true for every path. -/
import Derived.Test.YtgaefkhmibhhoaaGreatDoorAxPure
set_option linter.unusedSimpArgs false
set_option linter.unusedVariables false
namespace Go.AX
open Go
theorem get_set (tm : Tm) (d : Nat) (v : Value) (i : Nat) : getT (setT tm d v) i = if i = d ∧ d < tm.length then v else getT tm i := by
  rw [getT_eq, getT_eq, setT_eq, List.getD_eq_getElem?_getD, List.getD_eq_getElem?_getD, List.getElem?_set]
  by_cases e : d = i
  · subst e
    by_cases h : d < tm.length
    · simp [h]
    · simp [h]
  · have e' : ¬ i = d := fun h => e h.symm
    simp [e, e']
theorem len_set (tm : Tm) (d : Nat) (v : Value) : (setT tm d v).length = tm.length := by rw [setT_eq]; simp
theorem ev_tmp (tm : Tm) (t : Nat) : ev tm (.tmp t) = getT tm t := rfl
theorem put_some (tm : Tm) (d : Nat) (v : Value) : putT tm (some d) v = setT tm d v := rfl
theorem blk_row (h : Heap) (c : List Value) (e : TypeId) (s : Nat) : (h.row c e s).2.blk h.next = some ⟨c, e, s, h.next, false⟩ := by
  simp only [Heap.blk, Heap.row, Heap.get_setMembers, Heap.get_push, if_true]
theorem blk_row_ne (h : Heap) (c : List Value) (e : TypeId) (s x : Nat) (hx : x ≠ h.next) : (h.row c e s).2.blk x = h.blk x := by
  simp only [Heap.blk, Heap.row, Heap.get_setMembers, Heap.get_push, if_neg hx]
theorem read_row (h : Heap) (c : List Value) (e : TypeId) (s o n : Nat) : (h.row c e s).2.read h.next o n = takeN n (dropN o c) := by
  simp only [Heap.read, blk_row]
theorem read_row_ne (h : Heap) (c : List Value) (e : TypeId) (s x o n : Nat) (hx : x ≠ h.next) : (h.row c e s).2.read x o n = h.read x o n := by
  simp only [Heap.read, blk_row_ne _ _ _ _ _ hx]
theorem next_row (h : Heap) (c : List Value) (e : TypeId) (s : Nat) : (h.row c e s).2.next = h.next + 1 := rfl
section
variable {P : Program} {S : Caller}
/-- An operation that makes a row. -/
theorem RW.fresh {ops : Array Oper} {o : Oper} {l : List Oper} {tm : Tm} {h : Heap} {n : New} {Q : Tm → Heap → Prop} (hw : wantedT ops o tm = true) (hq : isQuiet P o = false) (hf : isFresh o = true) (he : AX.fresh P o (ev tm) = some n)
    (hr : RW P S ops l (putT tm o.dst (n.at h.next)) (h.row n.cells n.elem n.es).2 Q) : RW P S ops (o :: l) tm h Q :=
  .op hw (fun k => by unfold opEval; rw [hq, hf, he]; rfl) hr
/-- A call, its arguments told. -/
theorem RW.call1 {ops : Array Oper} {o : Oper} {l : List Oper} {tm : Tm} {h h1 : Heap} {v : Value} {Q : Tm → Heap → Prop} {f : Operand} {args : Array Operand} {ts : Array TypeId} {F : FuncId} {fn : Func} (vs : List Value) (hw : wantedT ops o tm = true)
    (ho : o.op = .call { callee := .value f, args, argTypes := ts }) (hf : ev tm f = .func (.func F) #[] #[]) (hfn : P.funcs[F]? = some fn) (hb : fn.body.isSome = true) (ha : args.toList.map (ev tm) = vs) (hs : S F vs h = some (v, h1))
    (hr : RW P S ops l (putT tm o.dst v) h1 Q) : RW P S ops (o :: l) tm h Q := .call hw ho hf hfn hb (by rw [ha]; exact hs) hr
/-- One that makes or turns something otherwise. -/
theorem RW.effect {ops : Array Oper} {o : Oper} {l : List Oper} {tm : Tm} {h h1 : Heap} {v : Value} {Q : Tm → Heap → Prop} (hw : wantedT ops o tm = true) (hq : isQuiet P o = false) (hf : isFresh o = false) (he : ∀ k, AX.effect P k o (ev tm) h = some (v, h1))
    (hr : RW P S ops l (putT tm o.dst v) h1 Q) : RW P S ops (o :: l) tm h Q :=
  .op hw (fun k => by unfold opEval; rw [hq, hf]; exact he _) hr
/-- The heap with more numbers kept back. -/
def bump (h : Heap) (k : Nat) : Heap := { h with next := h.next + k }
theorem bump_get (h : Heap) (k x : Nat) : (bump h k).get x = h.get x := rfl
theorem bump_read (h : Heap) (k x o n : Nat) : (bump h k).read x o n = h.read x o n := rfl
theorem quiet_bump (o : Oper) (ρ : Operand → Value) (h : Heap) (k : Nat) : AX.quiet P o ρ (bump h k) = AX.quiet P o ρ h := rfl
theorem Keeps.bump {h0 h : Heap} (hk : Keeps h0 h) (k : Nat) : Keeps h0 (bump h k) := hk
theorem Free.bump {h : Heap} (hf : Free h) (k : Nat) : Free (bump h k) := fun x o hx ho => hf x o (Nat.le_trans (Nat.le_add_right _ _) hx) ho

theorem runIdx_quiet {k : Caller} {ops : Array Oper} {base : Nat} : ∀ (l : List Oper) (i : Nat) (tm tm' : Tm) (h h' : Heap) (b : Nat) (seen : List Seen), (∀ o, o ∈ l → isQuiet P o = true) → runOps P k ops l tm h = some (tm', h') →
    h' = h ∧ ∃ seen', runIdx P k ops base i l ⟨tm, bump h b, [], seen, []⟩ = some ⟨tm', bump h b, [], seen', []⟩ := by
  intro l
  induction l with
  | nil =>
    intro i tm tm' h h' b seen _ hr
    simp only [runOps, Option.some.injEq, Prod.mk.injEq] at hr
    obtain ⟨rfl, rfl⟩ := hr
    exact ⟨rfl, seen, rfl⟩
  | cons o l ih =>
    intro i tm tm' h h' b seen hq hr
    have ho := hq o (by simp)
    unfold runOps at hr
    unfold runIdx stepIdx
    split at hr
    · rename_i hw
      rw [if_pos hw, if_pos ho]
      split at hr
      · rename_i v h1 he
        unfold opEval at he
        rw [if_pos ho] at he
        simp only [Option.map_eq_some_iff, Prod.mk.injEq] at he
        obtain ⟨v1, hv, rfl, rfl⟩ := he
        rw [quiet_bump, hv]
        exact ih _ _ _ _ _ _ _ (fun o' ho' => hq o' (by simp [ho'])) hr
      · cases hr
    · rename_i hw
      rw [if_neg hw]
      exact ih _ _ _ _ _ _ _ (fun o' ho' => hq o' (by simp [ho'])) hr
/-- A region whose order is open, and that only reads. -/
theorem W.drawnQ {id : Nat} {ops : Array Oper} {tm : Tm} {h : Heap} {Q : AExit → St → Prop} (hok : opsOk P ops = true) (ho : okOrder P ops = true) (hq : ops.toList.all (isQuiet P) = true)
    (hr : RW P S ops ops.toList tm h fun tm _ => Q .normal ⟨tm, bump h ops.size⟩) : W P S (.region id ops true) ⟨tm, h⟩ Q := by
  obtain ⟨tm', h', h1, h2⟩ := hr
  refine W.drawn (tm' := tm') (h' := bump h ops.size) hok (fun k => ?_) h2
  obtain ⟨rfl, seen', h3⟩ := runIdx_quiet (base := h.next) ops.toList 0 tm tm' h h' ops.size [] (fun o ho => List.all_eq_true.1 hq o ho) (h1 k)
  unfold runDrawn
  rw [if_pos ho]
  have h3' : runIdx P (withS S k) ops h'.next 0 ops.toList ⟨tm, { h' with next := h'.next + ops.size }, [], [], []⟩ = some ⟨tm', bump h' ops.size, [], seen', []⟩ := h3
  rw [h3']
  rfl

/-! ### rows of numbers -/
def Ints (h : Heap) (v : Value) (A : List Int) : Prop :=
  (v = .slice none 0 0 ∧ A = []) ∨ ∃ x o c, v = .slice (some ⟨x, o, none⟩) A.length c ∧ h.read x o A.length = some (A.map (Value.int .i64))
theorem read_at {h : Heap} {x o n i : Nat} {l : List Value} (hr : h.read x o n = some l) (hi : i < n) : ∃ v, l[i]? = some v ∧ h.read x (o + i) 1 = some [v] := by
  unfold Heap.read at hr ⊢
  cases hb : h.blk x with
  | none => rw [hb] at hr; cases hr
  | some b =>
    rw [hb] at hr
    simp only at hr ⊢
    obtain ⟨h1, h2, h3, h4⟩ := take_drop_get hr
    rw [h3 i hi]
    have hlt : o + i < b.cells.length := by
      rw [dropN_eq] at hr
      have := (takeN_eq _ _ _ hr).2
      simp at this; omega
    refine ⟨b.cells[o + i], by simp [hlt], ?_⟩
    rw [dropN_eq, List.drop_eq_getElem_cons hlt]
    rfl
end
end Go.AX
