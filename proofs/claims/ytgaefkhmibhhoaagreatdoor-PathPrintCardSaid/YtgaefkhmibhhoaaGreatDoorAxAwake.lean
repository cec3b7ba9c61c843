/- A part of the proof that rubriclaw22.PathPrint returns true for every path. -/
import Derived.Test.YtgaefkhmibhhoaaGreatDoorAxExec
set_option linter.unusedSimpArgs false
set_option linter.unusedVariables false
namespace Go.AX
open Go Go.RowKit

/-- Nothing is known beforehand. -/
def S0 : Caller := fun _ _ _ => none
theorem S0_ok (P : Program) (NG B : Nat) (J : Map → Heap → World → Prop) : KOK P NG B J S0 := by
  intro f args h v h' he
  cases he
def J0 : Map → Heap → World → Prop := fun _ _ _ => True
theorem J0_ok : JC J0 := fun _ _ _ _ _ _ _ _ _ => trivial

def awakeOk (P : Program) (n : Nat) (f : FuncId) : Bool :=
  match callBody P (exec P S0 n) f [] ⟨.lf, P.globals.size, .lf⟩ with
  | some (.bool b, _) => b
  | _ => false

/-- What the evaluator finds for a call without arguments holds of it in every world that has room for the package-level variables. -/
theorem awake_sound {P : Program} (hm : P.follows .mixedOrders = true) (hx : XOK P) (hN : NOK P) {n : Nat} {f : FuncId} (hok : awakeOk P n f = true) (w : World) (hw : P.globals.size ≤ w.heap.size) :
    Calls P f #[] w fun e w' => e = .returned (.bool true) ∧ Below w.heap.size w w' := by
  unfold awakeOk at hok
  split at hok
  · rename_i b h' hk
    subst hok
    let ρ : Map := fun g => if g < P.globals.size then some ⟨g, 0, 0, 0, 0⟩ else none
    have hget : ∀ x, (⟨.lf, P.globals.size, .lf⟩ : Heap).get x = none := fun x => by simp [Heap.get, Tr.get_lf]
    have hh : HR P.globals.size w.heap.size ρ ⟨.lf, P.globals.size, .lf⟩ w := {
      dom := fun x l hx => by
        simp only [ρ] at hx
        split at hx
        · cases hx; simp only; omega
        · cases hx
      cells := fun x b hb => by rw [hget] at hb; cases hb
      iter := fun x s p hb => by rw [hget] at hb; cases hb
      sepC := fun x y bx bY lx ly hb => by rw [hget] at hb; cases hb
      sepI := fun x y s p s' p' lx ly hb => by rw [hget] at hb; cases hb
      glob := fun g hg => ⟨_, by simp only [ρ]; rw [if_pos hg], rfl, rfl⟩
      next := Nat.le_refl _
      room := Nat.le_refl _ }
    have hka : ∀ x, ¬ Alive (⟨.lf, P.globals.size, .lf⟩ : Heap) x := by
      rintro x (⟨b, hb⟩ | ⟨s, p, hb⟩) <;> · rw [hget] at hb; cases hb
    refine (callBody_sound (exec_sound hm hx hN rfl J0_ok (S0_ok _ _ _ _) n) f [] _ _ h' hk ρ w [] hh trivial (.nil _)).mono ?_
    rintro e w' ⟨v', ρ', rfl, g1, g2, g3⟩
    cases g3
    exact ⟨rfl, g1.os, g1.tape, g1.output, g1.size, fun k hk => g1.keep k hk fun x l hx => absurd hx.alive (hka x)⟩
  · cases hok
end Go.AX
