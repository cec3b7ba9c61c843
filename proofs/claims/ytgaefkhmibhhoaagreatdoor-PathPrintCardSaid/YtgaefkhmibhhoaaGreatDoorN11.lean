/- A part of the proof that rubriclaw22.PathPrint returns true for every path. -/
import Derived.Test.YtgaefkhmibhhoaaGreatDoorN8
set_option linter.unusedSimpArgs false
set_option linter.unusedVariables false
namespace Go.AX
open Go Go.Proofs

def scan9 : Nat → List UInt8 → Nat → Option Nat
  | _, [], a => some a
  | k, b :: l, a => if (48 ≤ b.toNat ∧ b.toNat ≤ 57) ∧ k ≤ 8 then scan9 (k + 1) l (10 * a + (b.toNat - 48)) else none
def valRef (w : List UInt8) : Option Nat := match scan9 0 w 0 with
  | some n => if w = [] ∨ dec n ≠ w then none else some n
  | none => none
def refGo : List UInt8 → List UInt8 → List Nat → Option (List Nat)
  | [], w, l => match valRef w with
    | some n => some (l ++ [n])
    | none => none
  | c :: r, w, l => if c ≠ 47 then refGo r (w ++ [c]) l else match valRef w with
    | some n => refGo r [] (l ++ [n])
    | none => none

noncomputable def loop11 : Code := match Tryz.f11.body with
  | some (.seq _ (.seq _ (.seq _ (.seq _ (.seq (.seq _ (.block _ l)) _))))) => l
  | _ => .skip
noncomputable def inner11 : Code := match loop11 with
  | .loop (.seq _ (.seq (.block _ (.seq _ (.seq _ (.seq (.seq _ (.block _ l)) _)))) _)) => l
  | _ => .skip

theorem idx9 {w : ByteArray} {k : Nat} {b : UInt8} (hb : (bl w)[k]? = some b) : indexV Tryz.prog 9 (.string w) (.int .i64 (k : Int)) = some (.int .u8 b.toNat) := by
  have u9 := Tryz.underlying9
  simp [indexV, u9, hb]
theorem len9 (w : ByteArray) : lenV Tryz.prog 9 (.string w) = some (.int .i64 w.size) := by
  have u9 := Tryz.underlying9
  simp [lenV, u9, goInt, bl_size]

theorem inner11_run (S : Caller) (h : Heap) (w : ByteArray) (hw : w.size ≤ 1000) (i : Int) (s a0 : Value) : ∀ (d k a : Nat) (tm : Tm), w.size = k + d → k ≤ 9 → a < 10 ^ k → tm.length = 75 → getT tm 0 = s → getT tm 4 = a0 → getT tm 6 = .int .i64 i → getT tm 5 = .string w → getT tm 7 = .int .i64 (a : Int) → getT tm 8 = .int .i64 (k : Int) →
    W Tryz.prog S inner11 ⟨tm, h⟩ fun e t => t.h = h ∧ t.tm.length = 75 ∧ ((e = .ret ∧ scan9 k ((bl w).drop k) a = none ∧ getT t.tm 2 = .slice none 0 0 ∧ getT t.tm 3 = .bool false) ∨ (e = .exit 2 ∧ ∃ m, m < 10 ^ 9 ∧ scan9 k ((bl w).drop k) a = some m ∧ getT t.tm 7 = .int .i64 (m : Nat) ∧ getT t.tm 5 = .string w ∧ getT t.tm 0 = s ∧ getT t.tm 4 = a0 ∧ getT t.tm 6 = .int .i64 i)) := by
  intro d
  induction d with
  | zero =>
    intro k a tm hk hk9 ha hl h0 h4 h6 h5 h7 h8
    have hdrop : (bl w).drop k = [] := List.drop_eq_nil_of_le (by rw [bl_size]; omega)
    refine W.loop (W.seq (W.seq (W.region (by kernel_rfl) ?_)))
    refine RW.quiet rfl rfl rfl (.quiet rfl rfl rfl ?_)
    refine RW.quiet (v := .int .i64 w.size) rfl rfl (by simp [AX.quiet, hl, h5, ev_tmp, put_some, get_set, len_set, ev, closed, closed0, len9]) ?_
    refine RW.quiet (v := .bool false) rfl rfl (by simp [AX.quiet, binV, hl, h8, ev_tmp, put_some, get_set, len_set, ev, closed, closed0]; omega) (.nil ?_)
    refine W.cond (t := false) (by simp [hl, ev_tmp, put_some, get_set, len_set, ev, closed, closed0]) (W.exit ⟨rfl, by simp [hl, ev_tmp, put_some, get_set, len_set, ev, closed, closed0], .inr ⟨rfl, a, ?_, by rw [hdrop]; rfl, ?_⟩⟩)
    · exact Nat.lt_of_lt_of_le ha (Nat.pow_le_pow_right (by decide) hk9)
    · simp [hl, h0, h4, h6, h5, h7, ev_tmp, put_some, get_set, len_set, ev, closed, closed0]
  | succ d ih =>
    intro k a tm hk hk9 ha hl h0 h4 h6 h5 h7 h8
    have hlt : k < w.size := by omega
    have hlt' : k < (bl w).length := by rw [bl_size]; omega
    have hb : (bl w)[k]? = some w[k] := bl_get w k hlt
    have hdrop : (bl w).drop k = w[k] :: (bl w).drop (k + 1) := by
      rw [List.drop_eq_getElem_cons hlt']
      rfl
    have hi9 := idx9 hb
    generalize w[k] = b at *
    have hbl : b.toNat < 256 := UInt8.toNat_lt b
    refine W.loop (W.seq (W.seq (W.region (by kernel_rfl) ?_)))
    refine RW.quiet rfl rfl rfl (.quiet rfl rfl rfl ?_)
    refine RW.quiet (v := .int .i64 w.size) rfl rfl (by simp [AX.quiet, hl, h5, ev_tmp, put_some, get_set, len_set, ev, closed, closed0, len9]) ?_
    refine RW.quiet (v := .bool true) rfl rfl (by simp [AX.quiet, binV, hl, h8, ev_tmp, put_some, get_set, len_set, ev, closed, closed0]; omega) (.nil ?_)
    refine W.cond (t := true) (by simp [hl, ev_tmp, put_some, get_set, len_set, ev, closed, closed0]) (W.skip ?_)
    refine W.seq (W.block (W.seq (W.seq (W.region (by kernel_rfl) ?_))))
    refine RW.quiet rfl rfl rfl (.quiet rfl rfl rfl ?_)
    refine RW.quiet (v := .int .u8 b.toNat) rfl rfl (by simp [AX.quiet, hl, h5, h8, ev_tmp, put_some, get_set, len_set, ev, closed, closed0, hi9]) ?_
    refine RW.quiet (v := .bool (decide (b.toNat < 48))) rfl rfl (by simp [AX.quiet, binV, hl, ev_tmp, put_some, get_set, len_set, ev, closed, closed0]; omega) ?_
    refine RW.quiet rfl rfl rfl ?_
    have hbad : ∀ (tm' : Tm), tm'.length = 75 → ¬ ((48 ≤ b.toNat ∧ b.toNat ≤ 57) ∧ k ≤ 8) → getT tm' 53 = .bool true → W Tryz.prog S (match inner11 with | .loop (.seq _ (.seq (.block _ (.seq (.seq _ c) _)) _)) => c | _ => .skip) ⟨tm', h⟩ fun e t => e = .ret ∧ t.h = h ∧ t.tm.length = 75 ∧ (scan9 k ((bl w).drop k) a = none ∧ getT t.tm 2 = .slice none 0 0 ∧ getT t.tm 3 = .bool false) := by
      intro tm' hl' hno h53
      refine W.cond (t := true) (by simp [h53, ev_tmp, put_some, get_set, len_set, ev, closed, closed0]) (W.seq (W.region (by kernel_rfl) (.quiet rfl rfl rfl (.quiet rfl rfl rfl (.nil ?_)))))
      exact W.ret ⟨rfl, rfl, by simp [hl', ev_tmp, put_some, get_set, len_set, ev, closed, closed0], by rw [hdrop, scan9, if_neg hno], by simp [hl', ev_tmp, put_some, get_set, len_set, ev, closed, closed0], by simp [hl', ev_tmp, put_some, get_set, len_set, ev, closed, closed0]⟩
    by_cases c1 : b.toNat < 48
    · refine RW.skip (by simp [wantedT, guardVal, undef, hl, ev_tmp, put_some, get_set, len_set, ev, closed, closed0, c1]) ?_
      refine RW.skip (by simp [wantedT, guardVal, undef, hl, ev_tmp, put_some, get_set, len_set, ev, closed, closed0, c1]) ?_
      refine RW.skip (by simp [wantedT, guardVal, undef, hl, ev_tmp, put_some, get_set, len_set, ev, closed, closed0, c1]) ?_
      refine RW.skip (by simp [wantedT, guardVal, undef, hl, ev_tmp, put_some, get_set, len_set, ev, closed, closed0, c1]) ?_
      refine RW.quiet (v := .bool true) rfl rfl (by simp [AX.quiet, hl, ev_tmp, put_some, get_set, len_set, ev, closed, closed0, c1]) ?_
      refine RW.quiet rfl rfl rfl ?_
      refine RW.skip (by simp [wantedT, guardVal, undef, hl, ev_tmp, put_some, get_set, len_set, ev, closed, closed0, c1]) ?_
      refine RW.skip (by simp [wantedT, guardVal, undef, hl, ev_tmp, put_some, get_set, len_set, ev, closed, closed0, c1]) ?_
      refine RW.quiet (v := .bool true) rfl rfl (by simp [AX.quiet, hl, ev_tmp, put_some, get_set, len_set, ev, closed, closed0, c1]) (.nil ?_)
      refine (hbad _ (by simp [hl, ev_tmp, put_some, get_set, len_set, ev, closed, closed0]) (by omega) (by simp [hl, ev_tmp, put_some, get_set, len_set, ev, closed, closed0])).mono ?_
      rintro e t ⟨rfl, q1, q2, q3⟩
      exact ⟨q1, q2, .inl ⟨rfl, q3⟩⟩
    · refine RW.quiet (by simp [wantedT, guardVal, undef, hl, ev_tmp, put_some, get_set, len_set, ev, closed, closed0, c1]) rfl rfl ?_
      refine RW.quiet (by simp [wantedT, guardVal, undef, hl, ev_tmp, put_some, get_set, len_set, ev, closed, closed0, c1]) rfl rfl ?_
      refine RW.quiet (v := .int .u8 b.toNat) (by simp [wantedT, guardVal, undef, hl, ev_tmp, put_some, get_set, len_set, ev, closed, closed0, c1]) rfl (by simp [AX.quiet, hl, h5, h8, ev_tmp, put_some, get_set, len_set, ev, closed, closed0, hi9]) ?_
      refine RW.quiet (v := .bool (decide (57 < b.toNat))) (by simp [wantedT, guardVal, undef, hl, ev_tmp, put_some, get_set, len_set, ev, closed, closed0, c1]) rfl (by simp [AX.quiet, binV, hl, ev_tmp, put_some, get_set, len_set, ev, closed, closed0]; omega) ?_
      refine RW.quiet (v := .bool (decide (57 < b.toNat))) rfl rfl (by simp [AX.quiet, hl, ev_tmp, put_some, get_set, len_set, ev, closed, closed0, c1]) ?_
      refine RW.quiet rfl rfl rfl ?_
      by_cases c2 : 57 < b.toNat
      · refine RW.skip (by simp [wantedT, guardVal, undef, hl, ev_tmp, put_some, get_set, len_set, ev, closed, closed0, c2]) ?_
        refine RW.skip (by simp [wantedT, guardVal, undef, hl, ev_tmp, put_some, get_set, len_set, ev, closed, closed0, c2]) ?_
        refine RW.quiet (v := .bool true) rfl rfl (by simp [AX.quiet, hl, ev_tmp, put_some, get_set, len_set, ev, closed, closed0, c2]) (.nil ?_)
        refine (hbad _ (by simp [hl, ev_tmp, put_some, get_set, len_set, ev, closed, closed0]) (by omega) (by simp [hl, ev_tmp, put_some, get_set, len_set, ev, closed, closed0])).mono ?_
        rintro e t ⟨rfl, q1, q2, q3⟩
        exact ⟨q1, q2, .inl ⟨rfl, q3⟩⟩
      · refine RW.quiet (by simp [wantedT, guardVal, undef, hl, ev_tmp, put_some, get_set, len_set, ev, closed, closed0, c2]) rfl rfl ?_
        refine RW.quiet (v := .bool (decide (8 < k))) (by simp [wantedT, guardVal, undef, hl, ev_tmp, put_some, get_set, len_set, ev, closed, closed0, c2]) rfl (by simp [AX.quiet, binV, hl, h8, ev_tmp, put_some, get_set, len_set, ev, closed, closed0]; omega) ?_
        refine RW.quiet (v := .bool (decide (8 < k))) rfl rfl (by simp [AX.quiet, hl, ev_tmp, put_some, get_set, len_set, ev, closed, closed0, c2]) (.nil ?_)
        by_cases c3 : 8 < k
        · refine (hbad _ (by simp [hl, ev_tmp, put_some, get_set, len_set, ev, closed, closed0]) (by omega) (by simp [hl, ev_tmp, put_some, get_set, len_set, ev, closed, closed0, c3])).mono ?_
          rintro e t ⟨rfl, q1, q2, q3⟩
          exact ⟨q1, q2, .inl ⟨rfl, q3⟩⟩
        · refine W.cond (t := false) (by simp [hl, ev_tmp, put_some, get_set, len_set, ev, closed, closed0]; omega) (W.skip ?_)
          have hpow : (10 : Nat) ^ k ≤ 10 ^ 8 := Nat.pow_le_pow_right (by decide) (by omega)
          refine W.region (by kernel_rfl) ?_
          refine RW.quiet rfl rfl rfl ?_
          refine RW.quiet (v := .int .i64 ((10 * a : Nat) : Int)) rfl rfl (by simp [AX.quiet, binV, hl, h7, ev_tmp, put_some, get_set, len_set, ev, closed, closed0]; exact IntWalk.i64_in _ (by omega)) ?_
          refine RW.quiet rfl rfl rfl (.quiet rfl rfl rfl ?_)
          refine RW.quiet (v := .int .u8 b.toNat) rfl rfl (by simp [AX.quiet, hl, h5, h8, ev_tmp, put_some, get_set, len_set, ev, closed, closed0, hi9]) ?_
          refine RW.quiet (v := .int .u8 ((b.toNat - 48 : Nat) : Int)) rfl rfl (by
            have e : IntKind.u8.wrap ((b.toNat : Int) - 48) = ((b.toNat - 48 : Nat) : Int) := by rw [IntKind.wrap_u8]; omega
            simp [AX.quiet, binV, hl, ev_tmp, put_some, get_set, len_set, ev, closed, closed0, e]) ?_
          refine RW.quiet (v := .int .i64 ((b.toNat - 48 : Nat) : Int)) rfl (by kernel_rfl) (by
            have e : IntKind.i64.wrap ((b.toNat - 48 : Nat) : Int) = ((b.toNat - 48 : Nat) : Int) := IntWalk.i64_in _ (by omega)
            simp [AX.quiet, convV, Tryz.underlying5, Tryz.underlying3, hl, ev_tmp, put_some, get_set, len_set, ev, closed, closed0, e]) ?_
          refine RW.quiet (v := .int .i64 ((10 * a + (b.toNat - 48) : Nat) : Int)) rfl rfl (by
            have e : IntKind.i64.wrap (10 * (a : Int) + ((b.toNat - 48 : Nat) : Int)) = 10 * (a : Int) + ((b.toNat - 48 : Nat) : Int) := IntWalk.i64_in _ (by omega)
            simp [AX.quiet, binV, hl, ev_tmp, put_some, get_set, len_set, ev, closed, closed0, e]) ?_
          refine RW.quiet rfl rfl rfl (.nil ?_)
          refine W.region (by kernel_rfl) ?_
          refine RW.quiet rfl rfl rfl ?_
          refine RW.quiet (v := .int .i64 ((k + 1 : Nat) : Int)) rfl rfl (by simp [AX.quiet, binV, hl, h8, ev_tmp, put_some, get_set, len_set, ev, closed, closed0]; exact IntWalk.i64_in _ (by omega)) ?_
          refine RW.quiet rfl rfl rfl (.nil ?_)
          have hsc : scan9 k ((bl w).drop k) a = scan9 (k + 1) ((bl w).drop (k + 1)) (10 * a + (b.toNat - 48)) := by
            rw [hdrop, scan9, if_pos (by omega)]
          rw [hsc]
          refine ih (k + 1) (10 * a + (b.toNat - 48)) _ (by omega) (by omega) (by rw [Nat.pow_succ]; omega) ?_ ?_ ?_ ?_ ?_ ?_ ?_
          all_goals simp [hl, h0, h4, h6, h5, h7, ev_tmp, put_some, get_set, len_set, ev, closed, closed0]
end Go.AX
