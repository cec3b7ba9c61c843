/- A part of the proof that rubriclaw22.PathPrint returns true for every path. -/
import Derived.Test.YtgaefkhmibhhoaaGreatDoorAxFast3
import Derived.KernelRfl
set_option linter.unusedSimpArgs false
set_option linter.unusedVariables false
namespace Go.AX
open Go

/-- The one function without a Go body that the evaluator knows. -/
theorem xok_of {P : Program} (h : ∀ (f : FuncId) (fn : Func), P.funcs[f]? = some fn → fn.body = none → fn.name = "internal/abi.NoEscape" →
    (fn.name == "runtime.NumGoroutine") = false ∧ Extern.findNext fn = none ∧ Extern.find fn = some Extern.AbiNoEscape.same) : XOK P := by
  intro f fn hf hb args h1 v h' he NG B ρ w cargs hh hl
  unfold extern at he
  split at he
  · rename_i x hname
    cases he
    obtain ⟨g1, g2, g3⟩ := h f fn hf hb hname
    obtain ⟨x', l', rfl, hv, hl2⟩ := hl.cons_inv
    have := hl2.nil_inv
    subst this
    refine ⟨x', w, ρ, ?_, .refl _ _ _ _, hh, hv⟩
    have hbn : fn.body.isNone = true := by rw [hb]; rfl
    unfold callFunc
    simp only [Sem.run_bind, run_program, Result.andThen_ok, hf, g1, hbn, Bool.false_eq_true, if_false, if_true, g2, g3]
    rfl
  · cases he
end Go.AX

namespace Go.AX
open Go

def nokB (P : Program) : Bool := P.funcs.toList.all fun fn => !(fn.body.isSome && (fn.name == "runtime.NumGoroutine"))
def xokB (P : Program) : Bool := P.funcs.toList.all fun fn => fn.body.isSome || !(fn.name == "internal/abi.NoEscape") || (Extern.allNextRows.lookup fn.origin).isNone

theorem nok_of {P : Program} (h : nokB P = true) : NOK P := by
  intro f fn hf hb
  have h1 := List.all_eq_true.1 h fn (List.mem_of_getElem? (by simpa using hf))
  simp only [hb, Bool.true_and, Bool.not_eq_true'] at h1
  exact h1

theorem ext_next : (Extern.allNextRows.lookup "internal/abi.NoEscape").isNone = true := by kernel_rfl
theorem ext_num : ("internal/abi.NoEscape" == "runtime.NumGoroutine") = false := by kernel_rfl
theorem ext_same {fn : Func} (hn : fn.name = "internal/abi.NoEscape") : Extern.find fn = some Extern.AbiNoEscape.same := by
  obtain ⟨name, origin, targs, params, results, rest⟩ := fn
  simp only at hn
  subst hn
  kernel_rfl
theorem xok_of' {P : Program} (h : xokB P = true) : XOK P := by
  refine xok_of fun f fn hf hb hn => ⟨by rw [hn]; exact ext_num, ?_, ext_same hn⟩
  have h1 := List.all_eq_true.1 h fn (List.mem_of_getElem? (by simpa using hf))
  simp only [hb, hn, Option.isSome_none, Bool.false_or, beq_self_eq_true, Bool.not_true, Option.isNone_iff_eq_none] at h1
  have h2 : Extern.allNextRows.lookup "internal/abi.NoEscape" = none := by simpa using ext_next
  unfold Extern.findNext
  simp only [hn, h1, h2]
  rfl
end Go.AX
