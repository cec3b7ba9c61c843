/- A part of the proof that rubriclaw22.PathRead returns true for every text. -/
import Derived.Test.YtgaefkhmibhhoaaGreatDoorAxEffect2
set_option linter.unusedSimpArgs false
set_option linter.unusedVariables false
namespace Go.AX
open Go
section
variable {P : Program} {w : World} {NG B : Nat} {ρ : Map} {h : Heap}

theorem rangeV_sound (hh : HR NG B ρ h w) {t : TypeId} {x x' : Value} {v : Value} {h' : Heap} (hv : rangeV P t x h = some (v, h')) (hx : VR ρ x x') :
    Res NG B ρ h w ((Instr.range t x').run P w) v h' := by
  unfold rangeV at hv
  split at hv
  · rename_i s hu
    cases hv
    cases hx
    have hnone := hh.none_next (Nat.le_refl h.next)
    have hw1 : HR NG B ρ h { w with heap := w.heap.push (.stringIter s 0) } := hh.alloc _
    refine ⟨.pointer (some ⟨w.heap.size, 0, none⟩), { w with heap := w.heap.push (.stringIter s 0) }, upd ρ h.next ⟨w.heap.size, 0, 0, 0, 0⟩, ?_, ?_, ?_, ?_⟩
    · simp [Instr.range, run_und hu]
    · exact Step.upd hnone (Nat.le_refl _) (by rw [Heap.next_push]; omega) (fun z hz => alive_get (fun z => Heap.get_push _ _ _) hz) (.inl (Nat.le_refl _)) (by simp) rfl rfl rfl (fun b hb _ => by
        simp only [Array.getElem?_push]; rw [if_neg (by omega)])
    · exact hw1.addIter (l := ⟨w.heap.size, 0, 0, 0, 0⟩) hnone (by rw [Heap.next_push]; omega) (by rw [Heap.next_push]; omega) (fun z => Heap.get_push _ _ _) (fun f => Heap.members_push _ _ _) (by simp) rfl hh.room (fun z lz hz e => by
        have := (hh.dom z lz hz).2; simp only at e; omega)
    · exact .ptr h.next 0 ⟨w.heap.size, 0, 0, 0, 0⟩ (upd_same _ _ _)
  · cases hv

theorem nextV_sound (hh : HR NG B ρ h w) {it it' : Value} {b : Bool} {ty : TypeId} {v : Value} {h' : Heap} (hv : nextV it b h = some (v, h')) (hx : VR ρ it it') :
    Res NG B ρ h w ((Instr.next it' b ty).run P w) v h' := by
  unfold nextV at hv
  split at hv
  · rename_i r
    split at hv
    · rename_i s pos hr
      obtain ⟨l, hl, hb, h0, hB⟩ := hh.iter r s pos hr
      cases hx with
      | ptr x o l' hl' =>
        rw [hl] at hl'; cases hl'
        have hget : (getObj l.b).run P w = .ok (.stringIter s pos) w := by simp [getObj, Sem.run, hb]
        rw [h0]
        split at hv
        · rename_i hlt
          cases hv
          rw [bl_length] at hlt
          have hset : ∀ o, (setObj l.b o).run P w = .ok () (setBlk w l.b o) := fun o => by simp only [setObj, Sem.run, hb]; rfl
          refine ⟨_, setBlk w l.b (.stringIter s (pos + (Utf8.decode s pos).2)), ρ, ?_, Step.setBlk_step (.inr ⟨s, pos, hr⟩) hl _ (by rw [Heap.next_put]; exact Nat.le_refl _) (fun z hz => alive_put (.inr ⟨s, pos, hr⟩) hz), ?_, LR.tuple (l := [.bool true, goInt pos, .int .i32 (Utf8.decode s pos).1]) (l' := [.bool true, goInt pos, .int .i32 (Utf8.decode s pos).1]) (.cons (.bool _) (.cons (.int _ _) (.cons (.int _ _) (.nil _))))⟩
          · simp only [Instr.next, Nat.add_zero, Sem.run_bind, hget, Result.andThen_ok, Sem.run_ite]
            rw [if_pos hlt]
            simp only [hset, Result.andThen_ok]
            rfl
          · exact hh.setIter hr hl (Heap.next_put _ _ _) (fun z => Heap.get_put _ _ _ _) (fun f => Heap.members_put _ _ _ _)
        · rename_i hlt
          cases hv
          rw [bl_length] at hlt
          refine ⟨_, w, ρ, ?_, .refl _ _ _ _, hh, LR.tuple (l := [.bool false]) (l' := [.bool false]) (.cons (.bool _) (.nil _))⟩
          simp only [Instr.next, Nat.add_zero, Sem.run_bind, hget, Result.andThen_ok, Sem.run_ite]
          rw [if_neg hlt]
          rfl
    · cases hv
  · cases hv

theorem run_loadBytes {b o : Nat} : ∀ (ns : List Int) (i : Nat) (acc : ByteArray), (∀ (k : Nat) (v : Value), (ns.map (Value.int .u8))[k]? = some v → w.cell? ⟨b, o + i + k, none⟩ = some v) →
    ∃ r, (loadBytes ⟨b, o + i, none⟩ acc ns.length).run P w = .ok r w ∧ r.data.toList = acc.data.toList ++ ns.map fun n => UInt8.ofNat n.toNat := by
  intro ns
  induction ns with
  | nil => intro i acc _; exact ⟨acc, rfl, by simp⟩
  | cons n ns ih =>
    intro i acc hc
    have h0 := hc 0 (.int .u8 n) (by simp)
    simp only [Nat.add_zero] at h0
    obtain ⟨r, h1, h2⟩ := ih (i + 1) (acc.push n.toNat.toUInt8) (fun k v hv => by
      have := hc (k + 1) v (by simpa using hv)
      rw [← this]; congr 2; omega)
    refine ⟨r, ?_, ?_⟩
    · simp only [List.length_cons, loadBytes, Sem.run_bind, run_load, h0, Result.andThen_ok, add_eq]
      exact h1
    · rw [h2]
      have : (acc.push n.toNat.toUInt8).data.toList = acc.data.toList ++ [n.toNat.toUInt8] := by
        cases acc; simp [ByteArray.push]
      rw [this]
      simp [List.append_assoc]

theorem unsafeString_eq (ts : Array TypeId) (ty : TypeId) (p : Option Addr) (len_ : Value) : Builtin.unsafeString_ ts ty #[.pointer p, len_] = (do
  let n ← asInt len_
  let some pt := ts[0]? | stuck "unsafe.String: no argument types"
  if n < 0 then runtimePanic (.error "unsafe.String: len out of range")
  if n > IntKind.i64.max then unsupported (.unsafePointer "String: a length above the largest int")
  match p with
  | none =>
    if n = 0 then pure (.string .empty)
    else runtimePanic (.error "unsafe.String: ptr is nil and len is not zero")
  | some a =>
    if n = 0 then pure (.string .empty)
    else if ← variablesAt a (← elemOf pt) n.toNat then do
      let s ← loadBytes a .empty n.toNat
      freeze a n.toNat
      pure (.string s)
    else unsupported (.unsafePointer "String: not so many bytes at ptr")) := rfl

/-- A row that nobody writes to any more; its mark has turned. -/
theorem HR.hold (hh : HR NG B ρ h w) {x : Nat} {b : Blk} {l : Loc} {c : Array Value} {fr fr' : Nat × Nat} (hx : h.get x = some (.cells b)) (hl : ρ x = some l) (hg : w.heap[l.b]? = some (.cells c b.elem fr)) :
    HR NG B ρ ((h.only b.fam x).put x (.cells { b with ro := true })) (setBlk w l.b (.cells c b.elem fr')) := by
  have hon := hh.only b.fam x
  have hget : ∀ z, ((h.only b.fam x).put x (.cells { b with ro := true })).get z = if z = x then some (.cells { b with ro := true }) else (h.only b.fam x).get z := fun z => Heap.get_put _ _ _ _
  have hold : ∀ z bz, z ≠ x → (h.only b.fam x).get z = some (.cells bz) → h.get z = some (.cells bz) ∧ bz.fam ≠ b.fam := by
    intro z bz hzx hz
    rw [Heap.get_only] at hz
    split at hz
    · cases hz
    · rename_i hn
      refine ⟨hz, fun e => hn ⟨?_, hzx⟩⟩
      obtain ⟨_, _, _, _, hm, _⟩ := hh.cells z bz hz
      rw [← e]; exact hm
  obtain ⟨l0, q1, q2, q3, q4, q5⟩ := hh.cells x b hx
  rw [hl] at q1; cases q1
  have hmem : ∀ z f, z ∈ (h.only b.fam x).members f → z ∈ ((h.only b.fam x).put x (.cells { b with ro := true })).members f := fun z f hz => hz
  exact {
    dom := fun y ly hy => by rw [setBlk_size, Heap.next_put]; exact hon.dom y ly hy
    cells := fun y bY hy => by
      rw [hget] at hy
      by_cases e : y = x
      · subst e
        simp only [if_true, Option.some.injEq, AO.cells.injEq] at hy
        subst hy
        obtain ⟨⟨c2, fr2, g1, g2, g3, g4⟩, g5, g6, g7, g8⟩ := q2
        rw [hg] at g1
        injection g1 with g1
        injection g1 with e1 e2 _
        subst e1
        exact ⟨l, hl, ⟨⟨c, fr', setBlk_same _ _ _ (hh.dom y l hl).2, g2, fun h => (by cases h), g4⟩, g5, g6, g7, g8⟩, fun h => (by cases h), hmem _ _ (Heap.members_only _ _ _ _ _ q4 (by simp)), q5⟩
      · rw [if_neg e] at hy
        obtain ⟨hy0, hfam⟩ := hold y bY e hy
        obtain ⟨ly, h1, h2, h3, h4, h5⟩ := hon.cells y bY hy
        refine ⟨ly, h1, ?_, h3, hmem _ _ h4, h5⟩
        by_cases eb : ly.b = l.b
        · rcases hh.sepC y x bY b ly l hy0 hx h1 hl eb with h6 | h6
          · exact absurd h6 hfam
          · obtain ⟨⟨c2, fr2, g1, g2, g3, g4⟩, g5, g6, g7, g8⟩ := h2
            rw [eb, hg] at g1
            injection g1 with g1
            injection g1 with e1 e2 _
            subst e1
            exact ⟨⟨c, fr', by rw [eb, ← e2]; exact setBlk_same _ _ _ (hh.dom x l hl).2, g2, fun h => (by rw [h6.1] at h; cases h), g4⟩, g5, g6, g7, g8⟩
        · exact h2.world (setBlk_ne _ _ _ _ eb)
    iter := fun y s p hy => by
      rw [hget] at hy
      by_cases e : y = x
      · subst e; simp at hy
      · rw [if_neg e] at hy
        obtain ⟨ly, h1, h2, h3⟩ := hon.iter y s p hy
        refine ⟨ly, h1, ?_, h3⟩
        rw [setBlk_ne _ _ _ _ (fun e => by rw [e, hg] at h2; cases h2)]
        exact h2
    sepC := fun y z bY bz ly lz hy hz hly hlz heq => by
      rw [hget] at hy hz
      by_cases e : y = x
      · subst e
        simp only [if_true, Option.some.injEq, AO.cells.injEq] at hy
        subst hy
        by_cases e' : z = y
        · subst e'
          simp only [if_true, Option.some.injEq, AO.cells.injEq] at hz
          exact .inl (hz ▸ rfl)
        · rw [if_neg e'] at hz
          obtain ⟨hz0, hfam⟩ := hold z bz e' hz
          rcases hh.sepC y z b bz ly lz hx hz0 hly hlz heq with h6 | h6
          · exact .inl h6
          · exact .inr ⟨rfl, h6.2⟩
      · rw [if_neg e] at hy
        by_cases e' : z = x
        · subst e'
          simp only [if_true, Option.some.injEq, AO.cells.injEq] at hz
          subst hz
          obtain ⟨hy0, hfam⟩ := hold y bY e hy
          rcases hh.sepC y z bY b ly lz hy0 hx hly hlz heq with h6 | h6
          · exact .inl h6
          · exact .inr ⟨h6.1, rfl⟩
        · rw [if_neg e'] at hz
          exact hon.sepC y z bY bz ly lz hy hz hly hlz heq
    sepI := fun y z s p s' p' ly lz hy hz hly hlz heq => by
      rw [hget] at hy hz
      by_cases e : y = x
      · subst e; simp at hy
      · rw [if_neg e] at hy
        by_cases e' : z = x
        · subst e'; simp at hz
        · rw [if_neg e'] at hz; exact hon.sepI y z s p s' p' ly lz hy hz hly hlz heq
    glob := hon.glob
    next := by rw [Heap.next_put]; exact hon.next
    room := by rw [setBlk_size]; exact hon.room }

theorem stringV_sound (hh : HR NG B ρ h w) {ts : Array TypeId} {ty : TypeId} {args args' : List Value} {v : Value} {h' : Heap} (hv : stringV P ts args h = some (v, h')) (ha : LR ρ args args') :
    Res NG B ρ h w ((Builtin.unsafeString_ ts ty args'.toArray).run P w) v h' := by
  unfold stringV at hv
  split at hv
  · rename_i pt p k n hs0
    obtain ⟨p', t1, rfl, hp', ht1⟩ := ha.cons_inv
    obtain ⟨n', t2, rfl, hn', ht2⟩ := ht1.cons_inv
    cases ht2.nil_inv
    cases hn'
    split at hv
    · cases hv
    · rename_i hc
      simp only [not_or, Int.not_lt] at hc
      have hn0 : ¬ n < 0 := by omega
      split at hv
      · split at hv
        · rename_i h0
          cases hv
          cases hp'
          subst h0
          exact ⟨_, w, ρ, by simp [unsafeString_eq, asInt, asIntOf, hs0], .refl _ _ _ _, hh, .string _⟩
        · cases hv
      · rename_i a
        split at hv
        · rename_i h0
          cases hv
          subst h0
          cases hp' with
          | ptr x o l hl => exact ⟨_, w, ρ, by simp [unsafeString_eq, asInt, asIntOf, hs0], .refl _ _ _ _, hh, .string _⟩
        · rename_i h0
          split at hv
          · rename_i e b hu hb _
            split at hv
            · cases hv
            · rename_i hcond
              simp only [not_or, ne_eq, Decidable.not_not] at hcond
              split at hv
              · rename_i he
                simp only [Option.bind_eq_bind, Option.bind_eq_some_iff] at hv
                obtain ⟨r, hr, s, hs, hv⟩ := hv
                cases hv
                cases hp' with
                | ptr x o l hl =>
                  have hbx := blk_some hb
                  simp only at hbx hr hs ⊢
                  obtain ⟨l0, q1, q2, q3, q4, q5⟩ := hh.cells x b hbx
                  rw [hl] at q1; cases q1
                  obtain ⟨⟨c, fr, g1, g2, g3, g4⟩, g5, g6, g7, g8⟩ := q2
                  have hread : h.read x o n.toNat = some r := by unfold Heap.read; rw [hb]; exact hr
                  obtain ⟨r', p1, p2, p3⟩ := read_sound hh hread hl
                  obtain ⟨ns, rfl, rfl⟩ := bytesOf_eq _ hs
                  have := LR.ints ns p1
                  subst this
                  obtain ⟨hcond1, hcond2, hcond3⟩ := hcond
                  subst hcond1
                  obtain ⟨_, hmx, _, _⟩ := take_drop_get hr
                  have hnpos : 0 < n.toNat := by omega
                  have hin : l.base + o + n.toNat * 1 ≤ c.size := by
                    rw [g2]
                    have := (takeN_eq _ _ _ hr).2
                    rw [dropN_eq, List.length_drop] at this
                    omega
                  have hva := variablesAt_self (P := P) (w := w) (n := n.toNat) (off := l.base + o) g1 hcond3 (by omega) (Nat.mod_one _) hin
                  obtain ⟨S, hS1, hS2⟩ := run_loadBytes (P := P) (w := w) (b := l.b) (o := l.base + o) ns 0 .empty (fun k v hv => by
                    have := p3 k v hv
                    simpa using this)
                  simp only [Nat.add_zero, List.length_map] at hS1 p2
                  rw [p2] at hS1
                  have hSeq : S = ⟨(ns.map fun n => UInt8.ofNat n.toNat).toArray⟩ := by
                    cases S
                    congr 1
                    apply Array.ext'
                    have e0 : ByteArray.empty.data.toList = [] := rfl
                    rw [e0] at hS2
                    simpa using hS2
                  have hel : (elemOf pt).run P w = .ok b.elem w := by simp [elemOf, run_und hu]
                  have hfz : ∃ fr', w.freeze ⟨l.b, l.base + o, none⟩ n.toNat = setBlk w l.b (.cells c b.elem fr') := by
                    refine ⟨if fr.1 == fr.2 then (l.base + o, l.base + o + n.toNat) else (min fr.1 (l.base + o), max fr.2 (l.base + o + n.toNat)), ?_⟩
                    have hlt : l.b < w.heap.size := (Array.getElem?_eq_some_iff.1 g1).1
                    have hge : w.heap[l.b] = .cells c b.elem fr := (Array.getElem?_eq_some_iff.1 g1).2
                    unfold World.freeze setBlk
                    rw [if_neg (by omega)]
                    congr 1
                    apply Array.ext
                    · simp
                    · intro k h1 h2
                      simp only [Array.size_modify] at h1
                      rw [Array.getElem_modify, Array.getElem_setIfInBounds (by simpa using h2)]
                      by_cases hk : l.b = k
                      · rw [if_pos hk, if_pos hk]
                        have : w.heap[k] = .cells c b.elem fr := by rw [← hge]; congr 1; exact hk.symm
                        rw [this]
                      · rw [if_neg hk, if_neg hk]
                  obtain ⟨fr', hfz⟩ := hfz
                  refine ⟨.string S, setBlk w l.b (.cells c b.elem fr'), ρ, ?_, ?_, ?_, by rw [hSeq]; exact .string _⟩
                  · simp [unsafeString_eq, asInt, asIntOf, hs0, hn0, h0, hel, hva, hS1, hfz]
                    omega
                  · exact Step.setBlk_step (.inl ⟨b, hbx⟩) hl _ (by rw [Heap.next_put, Heap.next_only]; exact Nat.le_refl _) (fun z hz =>
                      alive_only (alive_put (.inl ⟨b, by rw [Heap.get_only, if_neg (by simp)]; exact hbx⟩) hz))
                  · exact hh.hold hbx hl g1
              · cases hv
          · cases hv
  · cases hv
/-! ### all of them -/
/-- What a contract of a callee says. -/
def KOK (P : Program) (NG B : Nat) (J : Map → Heap → World → Prop) (k : Caller) : Prop :=
  ∀ f args h v h', k f args h = some (v, h') → ∀ ρ w cargs, HR NG B ρ h w → J ρ h w → LR ρ args cargs →
    Calls P f cargs.toArray w fun e w' => ∃ v' ρ', e = .returned v' ∧ Step h.next ρ h w ρ' h' w' ∧ HR NG B ρ' h' w' ∧ VR ρ' v v'

/-- A property of what there is that no step takes away. -/
def JC (J : Map → Heap → World → Prop) : Prop := ∀ n ρ h w ρ' h' w', Step n ρ h w ρ' h' w' → J ρ h w → J ρ' h' w'

/-- Functions without a Go body do what is said of them. -/
def XOK (P : Program) : Prop := ∀ (f : FuncId) (fn : Func), P.funcs[f]? = some fn → fn.body = none → ∀ args h v h', extern fn.name args h = some (v, h') → ∀ NG B ρ w cargs, HR NG B ρ h w → LR ρ args cargs →
    ∃ v' w' ρ', (callFunc f cargs.toArray).run P w = .ok (.value v') w' ∧ Step h.next ρ h w ρ' h' w' ∧ HR NG B ρ' h' w' ∧ VR ρ' v v'

/-- No function with a body bears the one name that the model takes for itself. -/
def NOK (P : Program) : Prop := ∀ (f : FuncId) (fn : Func), P.funcs[f]? = some fn → fn.body.isSome = true → (fn.name == "runtime.NumGoroutine") = false

/-- An operation comes to what follows. -/
def OpOK (P : Program) (NG B : Nat) (ρ : Map) (h : Heap) (w : World) (o : Oper) (a : Act) (v : Value) (h' : Heap) : Prop :=
  ∀ (K : Act → World → Prop) (Q : Exit → Act → World → Prop), (∀ ρ' w' v', Step h.next ρ h w ρ' h' w' → HR NG B ρ' h' w' → VR ρ' v v' → K (a.put o.dst v') w') → o.wp P a w K Q

theorem OpOK.of_res {o : Oper} {a : Act} {v : Value} {h' : Heap} {r : Result Value} (hr : Res NG B ρ h w r v h') (he : ∀ v' w', r = .ok v' w' → (execOp a.eval o).run P w = .ok (.value v') w') : OpOK P NG B ρ h w o a v h' := by
  obtain ⟨v', w', ρ', h1, h2, h3, h4⟩ := hr
  intro K Q hK
  unfold Oper.wp
  rw [he v' w' h1]
  exact hK ρ' w' v' h2 h3 h4

theorem effect_sound (hx : XOK P) (hN : NOK P) {J : Map → Heap → World → Prop} {k : Caller} (hk : KOK P NG B J k) (hh : HR NG B ρ h w) (hJ : J ρ h w) {o : Oper} {ev : Operand → Value} {a : Act} {v : Value} {h' : Heap} (he : effect P k o ev h = some (v, h'))
    (hv : ∀ x, x ∈ o.op.operands → VR ρ (ev x) (a.eval x)) : OpOK P NG B ρ h w o a v h' := by
  unfold effect at he
  split at he
  · rename_i t l c ho
    exact .of_res (makeSliceV_sound hh he (hv l (by simp [ho, Op.operands])) (hv c (by simp [ho, Op.operands]))) fun v' w' hr => by simp [execOp, ho, hr]
  · rename_i t A V ho
    simp only [Option.map_eq_some_iff] at he
    obtain ⟨h2, hs, heq⟩ := he
    cases heq
    obtain ⟨w', g1, g2, g3⟩ := storeV_sound (P := P) hh hs (hv A (by simp [ho, Op.operands])) (hv V (by simp [ho, Op.operands]))
    intro K Q hK
    unfold Oper.wp
    have : (execOp a.eval o).run P w = .ok .skip w' := by simp [execOp, ho, g1]
    rw [this]
    exact hK ρ w' undef g2 g3 (VR.undef _)
  · rename_i s d x ho
    exact .of_res (convE_sound hh he (hv x (by simp [ho, Op.operands]))) fun v' w' hr => by simp [execOp, ho, hr]
  · rename_i t x ho
    exact .of_res (rangeV_sound hh he (hv x (by simp [ho, Op.operands]))) fun v' w' hr => by simp [execOp, ho, hr]
  · rename_i it s ho
    exact .of_res (nextV_sound (P := P) (ty := o.type) hh he (hv it (by simp [ho, Op.operands]))) fun v' w' hr => by simp [execOp, ho, hr]
  · rename_i args ts ho
    have hl : LR ρ (args.toList.map ev) (args.toList.map a.eval) := .of_map _ _ _ fun b hb => hv b (by rw [ho]; simpa [Op.operands, Call.operands] using hb)
    refine .of_res (appendV_sound (ty := o.type) hh he hl) fun v' w' hr => ?_
    rw [run_builtin ho]
    have e : (args.toList.map a.eval).toArray = args.map a.eval := by apply Array.ext'; simp
    rw [e] at hr
    simp [builtin, hr]
  · rename_i args ts ho
    have hl : LR ρ (args.toList.map ev) (args.toList.map a.eval) := .of_map _ _ _ fun b hb => hv b (by rw [ho]; simpa [Op.operands, Call.operands] using hb)
    refine .of_res (copyV_sound (ty := o.type) hh he hl) fun v' w' hr => ?_
    rw [run_builtin ho]
    have e : (args.toList.map a.eval).toArray = args.map a.eval := by apply Array.ext'; simp
    rw [e] at hr
    simp [builtin, hr]
  · rename_i args ts ho
    have hl : LR ρ (args.toList.map ev) (args.toList.map a.eval) := .of_map _ _ _ fun b hb => hv b (by rw [ho]; simpa [Op.operands, Call.operands] using hb)
    refine .of_res (stringV_sound (ty := o.type) hh he hl) fun v' w' hr => ?_
    rw [run_builtin ho]
    have e : (args.toList.map a.eval).toArray = args.map a.eval := by apply Array.ext'; simp
    rw [e] at hr
    simp [builtin, hr]
  · rename_i f args ts ho
    have hl : LR ρ (args.toList.map ev) (args.toList.map a.eval) := .of_map _ _ _ fun b hb => hv b (by rw [ho]; simp only [Op.operands, Call.operands, Array.mem_append]; exact .inr (by simpa using hb))
    have hf := hv f (by simp [ho, Op.operands, Call.operands])
    unfold callV at he
    split at he
    · rename_i F first captured hev
      rw [hev] at hf
      generalize hcf : a.eval f = z at hf
      cases hf with
      | func _ _ _ first' captured' s1 s2 r1 r2 =>
        have hfirst : LR ρ first.toList first'.toList := ⟨by simpa using s1, fun i x y hx hy => r1 i x y (by simpa using hx) (by simpa using hy)⟩
        have hcapt : LR ρ captured.toList captured'.toList := ⟨by simpa using s2, fun i x y hx hy => r2 i x y (by simpa using hx) (by simpa using hy)⟩
        have hall := (hfirst.append hl).append hcapt
        have hrun : (execOp a.eval o).run P w = (callFunc F ((first'.toList ++ args.toList.map a.eval) ++ captured'.toList).toArray).run P w := by
          have e : ((first'.toList ++ args.toList.map a.eval) ++ captured'.toList).toArray = first' ++ args.map a.eval ++ captured' := by
            apply Array.ext'; simp
          rw [e]
          simp only [execOp, ho, resolve, hcf, Deferred.ofValue, Sem.run_bind, Sem.run_pure, Result.andThen_ok, invoke]
        unfold callF at he
        split at he
        · rename_i fn hfn
          split at he
          · rename_i hb
            have hnn := hN F fn hfn hb
            have hbn : fn.body.isNone = false := by cases hbb : fn.body <;> simp [hbb] at hb ⊢
            have hrun2 : (callFunc F ((first'.toList ++ args.toList.map a.eval) ++ captured'.toList).toArray).run P w = .ok (.enter F ((first'.toList ++ args.toList.map a.eval) ++ captured'.toList).toArray) w := by
              simp only [callFunc, Sem.run_bind, run_program, Result.andThen_ok, hfn, hnn, hbn, Bool.false_eq_true, if_false]
              rfl
            intro K Q hK
            unfold Oper.wp
            rw [hrun, hrun2, Oper.upon_enter]
            refine (hk F _ h v h' he ρ w _ hh hJ hall).mono ?_
            rintro e w' ⟨v', ρ', rfl, g1, g2, g3⟩
            exact hK ρ' w' v' g1 g2 g3
          · rename_i hb
            have hbn : fn.body = none := by simpa using hb
            obtain ⟨v', w', ρ', g1, g2, g3, g4⟩ := hx F fn hfn hbn _ h v h' he NG B ρ w _ hh hall
            intro K Q hK
            unfold Oper.wp
            rw [hrun, g1]
            exact hK ρ' w' v' g2 g3 g4
        · cases he
    · cases he
  · cases he
end
end Go.AX
