/- A part of the proof that rubriclaw22.PathPrint returns true for every path. -/
import Derived.Test.YtgaefkhmibhhoaaGreatDoorAxDrawn
import Derived.LoopN
import Derived.Scope
import Derived.Below
set_option linter.unusedSimpArgs false
set_option linter.unusedVariables false
namespace Go.AX
open Go

def AExit.to : AExit → Exit
  | .normal => .normal
  | .exit i => .exit i
  | .ret => .ret

section
variable {P : Program} {NG B : Nat}

/-- Code does what is said of it. -/
def CS (P : Program) (NG B : Nat) (J : Map → Heap → World → Prop) (run : Code → St → Option (AExit × St)) : Prop :=
  ∀ c s e s', run c s = some (e, s') → ∀ ρ w a (Q : Exit → Act → World → Prop), HR NG B ρ s.h w → J ρ s.h w → TR ρ s.tm a →
    (∀ ρ' w' a', Step s.h.next ρ s.h w ρ' s'.h w' → HR NG B ρ' s'.h w' → TR ρ' s'.tm a' → a'.defers = a.defers → Q e.to a' w') → c.wp P Q a w

def cres (tmps : Array Value) : ResultVar → Sem Value
  | .tmp t => pure (tmps.getD t undef)
  | .cell a t => do Go.loadVar t (← asAddr (tmps.getD a undef))
theorem results_eq (fn : Func) (tmps : Array Value) : results fn tmps = (do
    let vs ← fn.results.mapM (cres tmps)
    pure (if h : vs.size = 1 then vs[0] else .tuple vs)) := by
  have h : ∀ f g : ResultVar → Sem Value, f = g → ((do
    let vs ← fn.results.mapM f
    pure (if h : vs.size = 1 then vs[0] else .tuple vs) : Sem Value)) = (do
    let vs ← fn.results.mapM g
    pure (if h : vs.size = 1 then vs[0] else .tuple vs)) := fun f g e => by rw [e]
  unfold results
  refine h _ _ ?_
  funext r; cases r <;> rfl

theorem resOf_sound {ρ : Map} {w : World} {s : St} {a : Act} (hh : HR NG B ρ s.h w) (ht : TR ρ s.tm a) : ∀ (l : List ResultVar) (vs : List Value), l.mapM (resOf P s) = some vs →
    ∃ vs', (l.mapM (cres a.tmps)).run P w = .ok vs' w ∧ LR ρ vs vs' := by
  intro l
  induction l with
  | nil => intro vs h; simp at h; subst h; exact ⟨[], rfl, .nil _⟩
  | cons r l ih =>
    intro vs h
    rw [List.mapM_cons] at h
    simp only [Option.bind_eq_bind, Option.bind_eq_some_iff, Option.pure_def, Option.some.injEq] at h
    obtain ⟨v, h1, vs2, h2, rfl⟩ := h
    obtain ⟨vs', g1, g2⟩ := ih vs2 h2
    have key : ∃ v', (cres a.tmps r).run P w = .ok v' w ∧ VR ρ v v' := by
      cases r with
      | tmp t =>
        simp only [resOf, Option.some.injEq] at h1
        subst h1
        exact ⟨_, rfl, ht.get t⟩
      | cell b t =>
        simp only [resOf] at h1
        split at h1
        · rename_i ad hb
          have hv := ht.get b
          rw [hb] at hv
          generalize hz : a.tmps.getD b undef = z at hv
          cases hv with
          | ptr x o l hx =>
            obtain ⟨v', q1, q2⟩ := loadVar_sound hh hx h1
            refine ⟨v', ?_, q2⟩
            simp only [cres, hz, asAddr, pure_bind]
            exact q1
        · cases h1
    obtain ⟨v', k1, k2⟩ := key
    refine ⟨v' :: vs', ?_, .cons k2 g2⟩
    rw [List.mapM_cons]
    simp only [Sem.run_bind]
    rw [k1]
    simp only [Result.andThen_ok, Sem.run_bind]
    rw [g1]
    rfl

theorem endOf_sound {ρ : Map} {w : World} {s : St} {a : Act} {fn : Func} {v : Value} {h' : Heap} (hh : HR NG B ρ s.h w) (ht : TR ρ s.tm a) (he : endOf P fn s = some (v, h')) : h' = s.h ∧ ∃ v', (results fn a.tmps).run P w = .ok v' w ∧ VR ρ v v' := by
  unfold endOf at he
  have hone : ∀ vs' : List Value, (fn.results.toList.mapM (cres a.tmps)).run P w = .ok vs' w → (results fn a.tmps).run P w = .ok (if h : vs'.toArray.size = 1 then vs'.toArray[0] else .tuple vs'.toArray) w := by
    intro vs' h
    rw [results_eq]
    simp only [Array.mapM_eq_mapM_toList, Sem.run_bind]
    rw [Sem.run_map]
    rw [h]
    rfl
  split at he
  · rename_i v1 hm
    cases he
    obtain ⟨vs', g1, g2⟩ := resOf_sound hh ht _ _ hm
    obtain ⟨v', l', rfl, g3, g4⟩ := g2.cons_inv
    have := g4.nil_inv
    subst this
    exact ⟨rfl, v', by rw [hone _ g1]; simp, g3⟩
  · rename_i vs hne hm
    cases he
    obtain ⟨vs', g1, g2⟩ := resOf_sound hh ht _ _ hm
    refine ⟨rfl, .tuple vs'.toArray, ?_, g2.tuple⟩
    rw [hone _ g1]
    rw [dif_neg]
    intro h1
    have h2 : vs.length = 1 := by have := g2.1; simp at h1; omega
    match vs, h2 with
    | [x], _ => exact hne x rfl
  · cases he

theorem callBody_sound {J : Map → Heap → World → Prop} {run : Code → St → Option (AExit × St)} (hr : CS P NG B J run) : KOK P NG B J (callBody P run) := by
  intro f args h v h' hk ρ w cargs hh hJ hl
  unfold callBody at hk
  split at hk
  · cases hk
  · rename_i fn hf
    split at hk
    · cases hk
    · rename_i c hb
      have hlen := hl.1
      have ht : TR ρ (args ++ List.replicate (fn.ntmps - args.length) undef) { tmps := cargs.toArray ++ Array.replicate (fn.ntmps - cargs.toArray.size) undef, defers := [] } := by
        unfold TR
        simp only [Array.toList_append, List.toList_toArray, Array.toList_replicate, List.size_toArray]
        rw [hlen]
        exact hl.append (LR.refl_of fun u hu => by rw [List.eq_of_mem_replicate hu]; exact VR.undef _)
      refine calls_of_wp hf hb ?_
      split at hk
      · rename_i s hc
        refine hr c _ .normal s hc ρ w _ _ hh hJ ht fun ρ' w' a' s1 s2 s3 s4 => ?_
        obtain ⟨rfl, v', g1, g2⟩ := endOf_sound s2 s3 hk
        exact ⟨s4, v', g1, v', ρ', rfl, s1, s2, g2⟩
      · rename_i s hc
        refine hr c _ .ret s hc ρ w _ _ hh hJ ht fun ρ' w' a' s1 s2 s3 s4 => ?_
        obtain ⟨rfl, v', g1, g2⟩ := endOf_sound s2 s3 hk
        exact ⟨s4, v', g1, v', ρ', rfl, s1, s2, g2⟩
      · cases hk

theorem withS_sound {J : Map → Heap → World → Prop} {S k : Caller} (hS : KOK P NG B J S) (hk : KOK P NG B J k) : KOK P NG B J (withS S k) := by
  intro f args h v h' he
  unfold withS at he
  split at he
  · rename_i r hr
    cases he
    exact hS f args h v h' hr
  · exact hk f args h v h' he

theorem exec_sound (hm : P.follows .mixedOrders = true) (hx : XOK P) (hN : NOK P) (hG : NG = P.globals.size) {J : Map → Heap → World → Prop} (hC : JC J) {S : Caller} (hS : KOK P NG B J S) : ∀ n, CS P NG B J (exec P S n) := by
  intro n
  induction n using Nat.strongRecOn with
  | _ n ih =>
    cases n with
    | zero => intro c s e s' h; cases h
    | succ n =>
      have ihn := ih n (by omega)
      intro c s e s' h ρ w a Q hh hJ ht hQ
      cases c with
      | skip => simp only [exec, Option.some.injEq, Prod.mk.injEq] at h; obtain ⟨rfl, rfl⟩ := h; exact wp_skip (hQ ρ w a (.refl _ _ _ _) hh ht rfl)
      | label l => simp only [exec, Option.some.injEq, Prod.mk.injEq] at h; obtain ⟨rfl, rfl⟩ := h; exact wp_label (hQ ρ w a (.refl _ _ _ _) hh ht rfl)
      | exit id => simp only [exec, Option.some.injEq, Prod.mk.injEq] at h; obtain ⟨rfl, rfl⟩ := h; exact wp_exit (hQ ρ w a (.refl _ _ _ _) hh ht rfl)
      | ret => simp only [exec, Option.some.injEq, Prod.mk.injEq] at h; obtain ⟨rfl, rfl⟩ := h; exact wp_ret (hQ ρ w a (.refl _ _ _ _) hh ht rfl)
      | seq x y =>
        simp only [exec] at h
        refine wp_seq ?_
        split at h
        · rename_i s1 h1
          refine ihn x s .normal s1 h1 ρ w a _ hh hJ ht fun ρ1 w1 a1 q1 q2 q3 q4 => ?_
          exact ihn y s1 e s' h ρ1 w1 a1 _ q2 (hC _ _ _ _ _ _ _ q1 hJ) q3 fun ρ2 w2 a2 r1 r2 r3 r4 => hQ ρ2 w2 a2 (q1.seq r1) r2 r3 (r4.trans q4)
        · rename_i hne
          refine ihn x s e s' h ρ w a _ hh hJ ht fun ρ1 w1 a1 q1 q2 q3 q4 => ?_
          cases e with
          | normal => exact absurd h (hne s')
          | exit i => exact hQ ρ1 w1 a1 q1 q2 q3 q4
          | ret => exact hQ ρ1 w1 a1 q1 q2 q3 q4
      | cond c x y =>
        simp only [exec] at h
        have hv : ∀ b, ev s.tm c = .bool b → a.eval c = .bool b := by
          intro b hb
          cases c with
          | tmp t =>
            have := ht.get t
            simp only [ev] at hb
            rw [hb] at this
            simp only [Act.eval]
            generalize a.tmps.getD t undef = z at this
            cases this; rfl
          | const v =>
            simp only [ev] at hb
            split at hb
            · exact hb
            · cases hb
          | global g => cases hb
          | func f => cases hb
        split at h
        · rename_i hb
          exact wp_cond_true (hv _ hb) (ihn x s e s' h ρ w a Q hh hJ ht hQ)
        · rename_i hb
          exact wp_cond_false (hv _ hb) (ihn y s e s' h ρ w a Q hh hJ ht hQ)
        · cases h
      | block id c =>
        simp only [exec] at h
        refine wp_block ?_
        split at h
        · rename_i i s1 h1
          simp only [Option.some.injEq, Prod.mk.injEq] at h
          obtain ⟨rfl, rfl⟩ := h
          refine ihn c s (.exit i) s1 h1 ρ w a _ hh hJ ht fun ρ1 w1 a1 q1 q2 q3 q4 => ?_
          have := hQ ρ1 w1 a1 q1 q2 q3 q4
          simp only [AExit.to, Exit.inBlock]
          by_cases e : i = id
          · subst e
            rw [if_pos rfl]
            simpa [AExit.to] using this
          · rw [if_neg e]
            have hb : Nat.beq i id = false := by cases hb : Nat.beq i id with
              | false => rfl
              | true => exact absurd (Nat.eq_of_beq_eq_true hb) e
            simpa [hb, AExit.to] using this
        · rename_i hne
          refine ihn c s e s' h ρ w a _ hh hJ ht fun ρ1 w1 a1 q1 q2 q3 q4 => ?_
          cases e with
          | normal => exact hQ ρ1 w1 a1 q1 q2 q3 q4
          | exit i => exact absurd h (hne i s')
          | ret => exact hQ ρ1 w1 a1 q1 q2 q3 q4
      | loop c =>
        have key : ∀ m, m ≤ n + 1 → ∀ s, exec P S m (.loop c) s = some (e, s') → ∀ ρ w a, HR NG B ρ s.h w → J ρ s.h w → TR ρ s.tm a →
            (∀ ρ' w' a', Step s.h.next ρ s.h w ρ' s'.h w' → HR NG B ρ' s'.h w' → TR ρ' s'.tm a' → a'.defers = a.defers → Q e.to a' w') → Code.rounds P c Q m a w := by
          intro m
          induction m with
          | zero => intro _ s h; cases h
          | succ m ihm =>
            intro hmn s h ρ w a hh hJ ht hQ
            rw [rounds_succ]
            simp only [exec] at h
            have ihc := ih m (by omega)
            split at h
            · rename_i s1 h1
              refine ihc c s .normal s1 h1 ρ w a _ hh hJ ht fun ρ1 w1 a1 q1 q2 q3 q4 => ?_
              exact ihm (by omega) s1 h ρ1 w1 a1 q2 (hC _ _ _ _ _ _ _ q1 hJ) q3 fun ρ2 w2 a2 r1 r2 r3 r4 => hQ ρ2 w2 a2 (q1.seq r1) r2 r3 (r4.trans q4)
            · rename_i hne
              refine ihc c s e s' h ρ w a _ hh hJ ht fun ρ1 w1 a1 q1 q2 q3 q4 => ?_
              cases e with
              | normal => exact absurd h (hne s')
              | exit i => exact hQ ρ1 w1 a1 q1 q2 q3 q4
              | ret => exact hQ ρ1 w1 a1 q1 q2 q3 q4
        exact wp_loop_rounds (n + 1) (key (n + 1) (Nat.le_refl _) s h ρ w a hh hJ ht hQ)
      | scope c =>
        simp only [exec] at h
        refine wp_scope_straight ?_
        refine ihn c s e s' h ρ w a _ hh hJ ht fun ρ1 w1 a1 q1 q2 q3 q4 => ?_
        have := hQ ρ1 w1 a1 q1 q2 q3 q4
        cases e <;> exact this
      | region id ops draw =>
        simp only [exec] at h
        split at h
        · rename_i hok
          split at h
          · rename_i tm h2 hr
            simp only [Option.some.injEq, Prod.mk.injEq] at h
            obtain ⟨rfl, rfl⟩ := h
            cases draw with
            | true => exact drawn_sound hm hx hN hG hC (withS_sound hS (callBody_sound ihn)) (by simpa using hr) hok hh hJ ht hQ
            | false => exact region_sound hx hN hG hC (withS_sound hS (callBody_sound ihn)) (by simpa using hr) hok hh hJ ht hQ
          · cases h
        · cases h
      | _ => simp only [exec] at h; cases h
end
end Go.AX
