/- A part of the proof that rubriclaw22.PathRead returns true for every text. -/
import Derived.Test.YtgaefkhmibhhoaaGreatDoorAxQuiet6
set_option linter.unusedSimpArgs false
set_option linter.unusedVariables false
namespace Go.AX
open Go
section
variable {P : Program} {w : World} {NG B : Nat} {ρ : Map} {h : Heap}

theorem run_builtin {cev : Operand → Value} {o : Oper} {b : Builtin} {args : Array Operand} {ts : Array TypeId} (ho : o.op = .call { callee := .builtin b, args, argTypes := ts }) :
    (execOp cev o).run P w = (builtin b ts o.type (args.map fun | .const _ => true | _ => false) (args.map cev)).run P w := by
  simp only [execOp, ho, resolve, Sem.run_bind, Sem.run_pure, Result.andThen_ok, invoke]
  rfl

theorem one_arg {args : Array Operand} {x : Operand} (h : args.toList = [x]) : args = #[x] := by
  apply Array.ext'; simpa using h

theorem OR.of {ev cev : Operand → Value} {o : Option Operand} (h : ∀ x, o = some x → VR ρ (ev x) (cev x)) : OR ρ (o.map ev) (o.map cev) := by
  cases o with
  | none => exact .inl ⟨rfl, rfl⟩
  | some x => exact .inr ⟨_, _, rfl, rfl, h x rfl⟩

theorem quiet_sound (hH : HR NG B ρ h w) {o : Oper} {ev cev : Operand → Value} {v : Value} (hq : quiet P o ev h = some v) (hv : ∀ x, x ∈ o.op.operands → VR ρ (ev x) (cev x)) :
    ∃ v', (execOp cev o).run P w = .ok (.value v') w ∧ VR ρ v v' := by
  unfold quiet at hq
  split at hq
  · rename_i x ho; cases hq; exact ⟨cev x, by simp [execOp, ho], hv x (by simp [ho, Op.operands])⟩
  · rename_i x ho; cases hq; exact ⟨cev x, by simp [execOp, ho], hv x (by simp [ho, Op.operands])⟩
  · rename_i c a b ho
    have hc := hv c (by simp [ho, Op.operands])
    split at hq
    · rename_i t hct
      rw [hct] at hc
      cases hq
      generalize hcc : cev c = z at hc
      cases hc
      refine ⟨if t then cev a else cev b, by simp [execOp, ho, hcc, asBool], ?_⟩
      cases t
      · exact hv b (by simp [ho, Op.operands])
      · exact hv a (by simp [ho, Op.operands])
    · cases hq
  · rename_i t a ho
    have hc := hv a (by simp [ho, Op.operands])
    split at hq
    · rename_i A hct
      rw [hct] at hc
      generalize hcc : cev a = z at hc
      cases hc with
      | ptr x o' l hl =>
        obtain ⟨v', h1, h2⟩ := loadVar_sound hH hl hq
        exact ⟨v', by simp [execOp, ho, hcc, Instr.loadAt, Instr.sureAddr, h1], h2⟩
    · cases hq
  · rename_i x ho
    exact nilV_sound ho rfl hq (hv x (by simp [ho, Op.operands]))
  · rename_i op t x y yt ho
    obtain ⟨v', h1, h2⟩ := binV_sound (w := w) (X := x) (Y := y) hq (hv x (by simp [ho, Op.operands])) (hv y (by simp [ho, Op.operands]))
    refine ⟨v', ?_, h2⟩
    simp only [execOp, ho]
    simp only [Sem.run_bind] at h1 ⊢
    rw [h1]
    rfl
  · rename_i op t x ho
    obtain ⟨v', h1, h2⟩ := unV_sound (P := P) (w := w) hq (hv x (by simp [ho, Op.operands]))
    exact ⟨v', by simp [execOp, ho, h1], h2⟩
  · rename_i s d x ho
    obtain ⟨v', h1, h2⟩ := convV_sound hH hq (hv x (by simp [ho, Op.operands]))
    exact ⟨v', by simp [execOp, ho, h1], h2⟩
  · rename_i t x ho
    have hx := hv x (by simp [ho, Op.operands])
    split at hq
    · cases hq
    · cases hq
    · rename_i d h1 h2
      cases hq
      refine ⟨.iface t (cev x), ?_, .iface _ _ _ hx⟩
      have : (Instr.makeInterface t (cev x)).run P w = .ok (.iface t (cev x)) w := by
        simp only [Instr.makeInterface, Sem.run_bind, run_und h2, Result.andThen_ok]
        cases d <;> first | rfl | exact absurd h2 (h1 _)
      simp [execOp, ho, this]
  · rename_i fn first captured ho
    cases hq
    refine ⟨.func fn (first.map cev) (captured.map cev), by simp [execOp, ho, Instr.makeFunc], ?_⟩
    refine .func _ _ _ _ _ (by simp) (by simp) (fun i x y hx hy => ?_) (fun i x y hx hy => ?_)
    · simp only [Array.getElem?_map, Option.map_eq_some_iff] at hx hy
      obtain ⟨a, ha, rfl⟩ := hx
      obtain ⟨b, hb, rfl⟩ := hy
      rw [ha] at hb; cases hb
      exact hv a (by rw [ho]; simp only [Op.operands, Array.mem_append]; exact .inl (Array.mem_of_getElem? ha))
    · simp only [Array.getElem?_map, Option.map_eq_some_iff] at hx hy
      obtain ⟨a, ha, rfl⟩ := hx
      obtain ⟨b, hb, rfl⟩ := hy
      rw [ha] at hb; cases hb
      exact hv a (by rw [ho]; simp only [Op.operands, Array.mem_append]; exact .inr (Array.mem_of_getElem? ha))
  · rename_i t x lo hi mx ho
    have hm : ∀ a, (a = x ∨ lo = some a ∨ hi = some a ∨ mx = some a) → VR ρ (ev a) (cev a) := by
      intro a ha
      refine hv a ?_
      rw [ho]
      simp only [Op.operands, Array.mem_append, Option.toArray]
      rcases ha with rfl | rfl | rfl | rfl <;> simp
    obtain ⟨v', h1, h2⟩ := sliceV_sound hH hq (hm x (.inl rfl)) (.of fun a h => hm a (.inr (.inl h))) (.of fun a h => hm a (.inr (.inr (.inl h)))) (.of fun a h => hm a (.inr (.inr (.inr h))))
    exact ⟨v', by simp [execOp, ho, h1], h2⟩
  · rename_i s x f ho
    obtain ⟨v', h1, h2⟩ := fieldAddrV_sound (w := w) hq (hv x (by simp [ho, Op.operands]))
    exact ⟨v', by simp [execOp, ho, h1], h2⟩
  · rename_i t x f ho
    obtain ⟨v', h1, h2⟩ := fieldV_sound (w := w) hq (hv x (by simp [ho, Op.operands]))
    exact ⟨v', by simp [execOp, ho, h1], h2⟩
  · rename_i t x i ho
    obtain ⟨v', h1, h2⟩ := indexAddrV_sound (w := w) hq (hv x (by simp [ho, Op.operands])) (hv i (by simp [ho, Op.operands]))
    exact ⟨v', by simp [execOp, ho, h1], h2⟩
  · rename_i t x i ho
    obtain ⟨v', h1, h2⟩ := indexV_sound (w := w) hq (hv x (by simp [ho, Op.operands])) (hv i (by simp [ho, Op.operands]))
    exact ⟨v', by simp [execOp, ho, h1], h2⟩
  · rename_i t i ho
    have hc := hv t (by simp [ho, Op.operands])
    split at hq
    · rename_i vs hct
      rw [hct] at hc
      obtain ⟨vs', hcc, hl⟩ := hc.tuple_inv
      obtain ⟨v', h1, h2⟩ := hl.get (by simpa using hq)
      refine ⟨v', ?_, h2⟩
      have : vs'[i]? = some v' := by simpa using h1
      simp [execOp, ho, hcc, Instr.extract, this]
    · cases hq
  · rename_i t parts ho
    obtain ⟨v', h1, h2⟩ := buildV_sound (w := w) (ρ := ρ) (ev := ev) (cev := cev) (fun a ha => hv a.2 (by
      rw [ho]
      simp only [Op.operands, List.mem_toArray, List.mem_map]
      exact ⟨a, ha, rfl⟩)) hq
    exact ⟨v', by simp [execOp, ho, h1], h2⟩
  · rename_i args ts ho
    split at hq
    · rename_i x t hargs hts
      have := one_arg hargs
      subst this
      obtain ⟨v', h1, h2⟩ := lenV_sound (w := w) (ty := o.type) hts hq (hv x (by simp [ho, Op.operands, Call.operands]))
      refine ⟨v', ?_, h2⟩
      rw [run_builtin ho]
      simp [builtin, h1]
    · cases hq
  · rename_i args ts ho
    split at hq
    · rename_i a l hargs
      have hl : LR ρ (args.toList.map ev) (args.toList.map cev) := .of_map _ _ _ fun a ha => hv a (by rw [ho]; simpa [Op.operands, Call.operands] using ha)
      rw [hargs] at hl
      obtain ⟨a', l', hl', h3, h4⟩ := hl.cons_inv
      obtain ⟨v', h1, h2⟩ := minInts_sound (P := P) (w := w) l l' hq h3 h4
      refine ⟨v', ?_, h2⟩
      rw [run_builtin ho]
      simp [builtin, Builtin.min_, hl', h1]
    · cases hq
  · rename_i args ts ho
    split at hq
    · rename_i a l hargs
      have hl : LR ρ (args.toList.map ev) (args.toList.map cev) := .of_map _ _ _ fun a ha => hv a (by rw [ho]; simpa [Op.operands, Call.operands] using ha)
      rw [hargs] at hl
      obtain ⟨a', l', hl', h3, h4⟩ := hl.cons_inv
      obtain ⟨v', h1, h2⟩ := maxInts_sound (P := P) (w := w) l l' hq h3 h4
      refine ⟨v', ?_, h2⟩
      rw [run_builtin ho]
      simp [builtin, Builtin.max_, hl', h1]
    · cases hq
  · rename_i args ts ho
    split at hq
    · rename_i x hargs
      have := one_arg hargs
      subst this
      obtain ⟨v', h1, h2⟩ := sliceDataV_sound (P := P) (w := w) (ty := o.type) (ts := ts) hq (hv x (by simp [ho, Op.operands, Call.operands]))
      refine ⟨v', ?_, h2⟩
      rw [run_builtin ho]
      simp [builtin, h1]
    · cases hq
  · cases hq
end
end Go.AX
