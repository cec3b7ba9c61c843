/- A part of the proof that rubriclaw22.PathPrint returns true for every path. -/
import Derived.Test.YtgaefkhmibhhoaaGreatDoorN12
set_option linter.unusedSimpArgs false
set_option linter.unusedVariables false
namespace Go.AX
open Go Go.Proofs

theorem size5 : sizeOf Tryz.prog 5 = some 1 := by kernel_rfl
theorem zero5 : zeroOf Tryz.prog 5 = some (.int .u8 0) := by kernel_rfl
theorem und45 : Tryz.prog.underlying 45 = some (.slice 5) := by kernel_rfl
theorem build45 (c : Int) : buildSliceV Tryz.prog 45 1 [(0, .int .u8 c)] = some ⟨[.int .u8 c], 5, 1, some 1⟩ := by
  simp [buildSliceV, und45, size5, zero5, Value.cells, fillL, zeros, over]

theorem f14_run (S : Caller) (h : Heap) (hf : Free h) (m : Nat) (hm : m < 2 ^ 63) (hS : 10 ≤ m → ∀ m' h', m' < m → S 14 [.int .i64 (m' : Int)] h' = some (.string ⟨(dec m').toArray⟩, h')) :
    ∃ n v h', callBody Tryz.prog (exec Tryz.prog S n) 14 [.int .i64 (m : Int)] h = some (v, h') ∧ v = .string ⟨(dec m).toArray⟩ ∧ Keeps h h' := by
  refine callBody_of Tryz.func14 rfl ?_
  have hn : ([Value.int .i64 (m : Int)] ++ List.replicate (Tryz.f14.ntmps - 1) undef).length = 17 := rfl
  have h0 : getT ([Value.int .i64 (m : Int)] ++ List.replicate (Tryz.f14.ntmps - 1) undef) 0 = .int .i64 (m : Int) := rfl
  show W Tryz.prog S _ ⟨[Value.int .i64 (m : Int)] ++ List.replicate (Tryz.f14.ntmps - 1) undef, h⟩ _
  generalize [Value.int .i64 (m : Int)] ++ List.replicate (Tryz.f14.ntmps - 1) undef = tm at hn h0
  refine W.seq (W.region (by kernel_rfl) (.quiet rfl rfl rfl (.nil ?_)))
  refine W.seq (W.seq (W.region (by kernel_rfl) ?_))
  refine RW.quiet rfl rfl rfl ?_
  refine RW.quiet (v := .bool (decide (m < 10))) rfl rfl (by simp [AX.quiet, binV, hn, h0, ev_tmp, put_some, get_set, len_set, ev, closed, closed0]; omega) (.nil ?_)
  by_cases h10 : m < 10
  · refine W.cond (t := true) (by simp [hn, ev_tmp, put_some, get_set, len_set, ev, closed, closed0]; exact h10) (W.seq (W.region (by kernel_rfl) ?_))
    refine RW.quiet rfl rfl rfl ?_
    refine RW.quiet (v := .int .i64 (48 + (m : Int))) rfl rfl (by simp [AX.quiet, binV, hn, h0, ev_tmp, put_some, get_set, len_set, ev, closed, closed0]; exact IntWalk.i64_in _ (by omega)) ?_
    refine RW.quiet (v := .int .u8 (48 + (m : Int))) rfl (by kernel_rfl) (by
      have e : IntKind.u8.wrap (48 + (m : Int)) = 48 + (m : Int) := by rw [IntKind.wrap_u8]; omega
      simp [AX.quiet, convV, Tryz.underlying3, Tryz.underlying5, hn, h0, ev_tmp, put_some, get_set, len_set, ev, closed, closed0, e]) ?_
    refine RW.fresh (n := ⟨[.int .u8 (48 + (m : Int))], 5, 1, some 1⟩) rfl rfl rfl (by simp [AX.fresh, hn, h0, ev_tmp, put_some, get_set, len_set, ev, closed, closed0, build45]) ?_
    refine RW.quiet (v := .string ⟨(dec m).toArray⟩) rfl (by kernel_rfl) (by
      simp [AX.quiet, convV, und45, Tryz.underlying5, Tryz.underlying9, hn, h0, ev_tmp, put_some, get_set, len_set, ev, closed, closed0, New.at, read_row, takeN, dropN, bytesOf]
      rw [dec_lt h10]
      have : (48 + (m : Int)).toNat = 48 + m := by omega
      rw [this]) ?_
    refine RW.quiet rfl rfl rfl (.nil ?_)
    refine W.ret ⟨.inr rfl, _, rfl, ?_, ?_⟩
    · simp [hn, ev_tmp, put_some, get_set, len_set, ev, closed, closed0]
    · exact Keeps.row hf _ _ _
  · refine W.cond (t := false) (by simp [hn, ev_tmp, put_some, get_set, len_set, ev, closed, closed0]; omega) (W.skip ?_)
    have hr : (m : Int).tmod 10 = ((m % 10 : Nat) : Int) := rfl
    have hq : (m : Int).tdiv 10 = ((m / 10 : Nat) : Int) := rfl
    refine W.seq (W.region (by kernel_rfl) ?_)
    refine RW.quiet rfl rfl rfl ?_
    have hq' : (m : Int).tdiv 10 = (m : Int) / 10 := hq
    have hr' : (m : Int).tmod 10 = (m : Int) % 10 := hr
    refine RW.quiet (v := .int .i64 ((m / 10 : Nat) : Int)) rfl rfl (by simp [AX.quiet, binV, hn, h0, ev_tmp, put_some, get_set, len_set, ev, closed, closed0, hq']; exact IntWalk.i64_in _ (by omega)) ?_
    refine RW.call1 [.int .i64 ((m / 10 : Nat) : Int)] rfl rfl rfl Tryz.func14 rfl (by simp [hn, ev_tmp, put_some, get_set, len_set, ev, closed, closed0]) (hS (by omega) (m / 10) _ (by omega)) ?_
    refine RW.quiet rfl rfl rfl ?_
    refine RW.quiet (v := .int .i64 ((m % 10 : Nat) : Int)) rfl rfl (by simp [AX.quiet, binV, hn, h0, ev_tmp, put_some, get_set, len_set, ev, closed, closed0, hr']) ?_
    refine RW.call1 [.int .i64 ((m % 10 : Nat) : Int)] rfl rfl rfl Tryz.func14 rfl (by simp [hn, ev_tmp, put_some, get_set, len_set, ev, closed, closed0]) (hS (by omega) (m % 10) _ (by omega)) ?_
    refine RW.quiet (v := .string ⟨(dec m).toArray⟩) rfl rfl (by
      have hl := dec_len 18 m (by omega)
      rw [dec_ge h10] at hl
      have h1 : small (dec (m / 10)).length (dec (m % 10)).length 1 = true := by
        rw [dec_lt (Nat.mod_lt _ (by decide))]
        exact small_le (by simp at hl; omega) (by simp)
      simp [AX.quiet, binV, bl, hn, h0, ev_tmp, put_some, get_set, len_set, ev, closed, closed0, h1]
      rw [dec_ge h10, dec_lt (Nat.mod_lt m (show 0 < 10 by decide))]) ?_
    refine RW.quiet rfl rfl rfl (.nil ?_)
    refine W.ret ⟨.inr rfl, _, rfl, ?_, ?_⟩
    · simp [hn, ev_tmp, put_some, get_set, len_set, ev, closed, closed0]
    · exact Keeps.refl _

/-- rubricref22.num: the same. -/
def g14 (B : Nat) (args : List Value) (_ : Heap) : Option Value :=
  match args with
  | [.int .i64 n] => if 0 ≤ n ∧ n < B ∧ n < 2 ^ 63 then some (.string ⟨(dec n.toNat).toArray⟩) else none
  | _ => none
theorem ok14 {NG B : Nat} {J : Map → Heap → World → Prop} (hm : Tryz.prog.follows .mixedOrders = true) (hx : XOK Tryz.prog) (hN : NOK Tryz.prog) (hG : NG = Tryz.prog.globals.size) (hC : JC J) : ∀ K, KOK Tryz.prog NG B J (pureS 14 (g14 K)) := by
  intro K
  induction K with
  | zero =>
    intro f args h v h' he
    unfold pureS g14 at he
    split at he
    · split at he
      · rw [if_neg (by omega)] at he; cases he
      · cases he
    · cases he
  | succ K ih =>
    refine pure_ok hm hx hN hG hC ih fun args h v hf hg => ?_
    unfold g14 at hg
    split at hg
    · rename_i n
      split at hg
      · rename_i hn
        cases hg
        obtain ⟨m, rfl⟩ : ∃ m : Nat, n = m := ⟨n.toNat, by omega⟩
        obtain ⟨k, v', h', h1, h2, h3⟩ := f14_run (pureS 14 (g14 K)) h hf m (by omega) (fun h10 m' h' hlt => by
          simp only [pureS, g14, if_true]
          rw [if_pos (by omega)]
          simp)
        refine ⟨.string _, k, v', h', h1, by rw [h2]; simp, h3⟩
      · cases hg
    · cases hg
end Go.AX
