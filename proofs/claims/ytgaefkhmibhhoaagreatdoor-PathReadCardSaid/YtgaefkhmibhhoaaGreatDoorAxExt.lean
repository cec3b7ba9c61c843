/- A part of the proof that rubriclaw22.PathRead returns true for every text. -/
import Derived.Test.YtgaefkhmibhhoaaGreatDoorAxFast3
set_option linter.unusedSimpArgs false
set_option linter.unusedVariables false
namespace Go.AX
open Go

/-- The one function without a Go body that the evaluator knows. -/
theorem xok_of {P : Program} (h : ∀ (f : FuncId) (fn : Func), P.funcs[f]? = some fn → fn.body = none → fn.name = "internal/abi.NoEscape" →
    (fn.name == "runtime.NumGoroutine") = false ∧ Extern.findNext fn = none ∧ Extern.find fn = some Extern.AbiNoEscape.same) : XOK P := by
  intro f fn hf hb args h1 v h' he NG B ρ w cargs hh hl
  unfold extern at he
  split at he
  · rename_i x hname
    cases he
    obtain ⟨g1, g2, g3⟩ := h f fn hf hb hname
    obtain ⟨x', l', rfl, hv, hl2⟩ := hl.cons_inv
    have := hl2.nil_inv
    subst this
    refine ⟨x', w, ρ, ?_, .refl _ _ _ _, hh, hv⟩
    have hbn : fn.body.isNone = true := by rw [hb]; rfl
    unfold callFunc
    simp only [Sem.run_bind, run_program, Result.andThen_ok, hf, g1, hbn, Bool.false_eq_true, if_false, if_true, g2, g3]
    rfl
  · cases he
end Go.AX
