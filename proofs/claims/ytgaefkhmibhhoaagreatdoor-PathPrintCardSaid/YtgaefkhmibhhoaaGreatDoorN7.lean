/- A part of the proof that rubriclaw22.PathPrint returns true for every path. -/
import Derived.Test.YtgaefkhmibhhoaaGreatDoorN16
import Derived.Lib.Join
set_option linter.unusedSimpArgs false
set_option linter.unusedVariables false
namespace Go.AX
open Go Go.Proofs

/-- A path's text, of numbers that are not negative. -/
def pathText (A : List Int) : List UInt8 := Lib.join (A.map fun n => dec n.toNat) [47]
theorem joinTail_snoc (sep : List UInt8) (r : List (List UInt8)) (y : List UInt8) : Lib.joinTail sep (r ++ [y]) = Lib.joinTail sep r ++ sep ++ y := by
  simp [Lib.joinTail, List.append_assoc]
theorem pathText_snoc (A : List Int) (n : Int) : pathText (A ++ [n]) = (if A = [] then [] else pathText A ++ [47]) ++ dec n.toNat := by
  unfold pathText
  cases A with
  | nil => simp [Lib.join_one]
  | cons a A =>
    rw [if_neg (by simp)]
    simp only [List.cons_append, List.map_cons, List.map_append, List.map_nil, Lib.join_cons, joinTail_snoc, List.append_assoc]
theorem pathText_len (A : List Int) (h : ∀ n, n ∈ A → n < 2 ^ 63) : (pathText A).length ≤ 20 * A.length := by
  have : ∀ (B : List Int), (∀ n, n ∈ B → n < 2 ^ 63) → ∀ k, (pathText (B.take k)).length ≤ 20 * k := by
    intro B hB k
    induction k with
    | zero => simp [pathText, Lib.join_nil]
    | succ k ih =>
      cases e : B[k]? with
      | none =>
        have : B.take (k + 1) = B.take k := by
          have h1 : B.length ≤ k := List.getElem?_eq_none_iff.1 e
          rw [List.take_of_length_le h1, List.take_of_length_le (by omega)]
        rw [this]; omega
      | some n =>
        rw [List.take_add_one, e]
        simp only [Option.toList_some]
        rw [pathText_snoc]
        have hn := hB n (List.mem_of_getElem? e)
        have := dec_len 18 n.toNat (by omega)
        split
        · simp; omega
        · simp; omega
  have h2 := this A h A.length
  rwa [List.take_length] at h2

noncomputable def loop7 : Code := match Tryz.f7.body with
  | some (.seq _ (.seq _ (.seq (.seq _ (.block _ l)) _))) => l
  | _ => .skip

theorem loop7_run (S : Caller) (h : Heap) (a : Value) (A : List Int) (ha : Ints h a A) (hA : A.length ≤ 8) (hb : ∀ n, n ∈ A → n < 2 ^ 63) (hS : ∀ m : Nat, m < 2 ^ 63 → S 14 [.int .i64 (m : Int)] h = some (.string ⟨(dec m).toArray⟩, h)) :
    ∀ (d i : Nat) (s : ByteArray) (tm : Tm), A.length = i + d → (∀ n, n ∈ A.take i → 0 ≤ n) → bl s = pathText (A.take i) → tm.length = 27 → getT tm 6 = a → getT tm 7 = .int .i64 (A.length : Int) → getT tm 8 = .int .i64 (i : Int) → getT tm 3 = .string s →
    W Tryz.prog S loop7 ⟨tm, h⟩ fun e t => t.h = h ∧ t.tm.length = 27 ∧ ((e = .ret ∧ (∃ n, n ∈ A ∧ n < 0) ∧ getT t.tm 2 = .string ⟨#[]⟩) ∨ (e = .exit 0 ∧ (∀ n, n ∈ A → 0 ≤ n) ∧ getT t.tm 3 = .string ⟨(pathText A).toArray⟩)) := by
  intro d
  induction d with
  | zero =>
    intro i s tm hi hpre hs hl h6 h7 h8 h3
    have hk : A.take i = A := List.take_of_length_le (by omega)
    refine W.loop (W.seq (W.region (by kernel_rfl) ?_))
    refine RW.quiet (v := .bool false) rfl rfl (by simp [AX.quiet, binV, hl, h7, h8, ev_tmp, put_some, get_set, len_set, ev, closed, closed0]; omega) (.nil ?_)
    refine W.seq (W.cond (t := false) (by simp [hl, ev_tmp, put_some, get_set, len_set, ev, closed, closed0]) (W.exit ⟨rfl, by simp [hl, ev_tmp, put_some, get_set, len_set, ev, closed, closed0], .inr ⟨rfl, by rw [← hk]; exact hpre, ?_⟩⟩))
    simp [hl, h3, ev_tmp, put_some, get_set, len_set, ev, closed, closed0]
    rw [← mk_bl s, hs, hk]
  | succ d ih =>
    intro i s tm hi hpre hs hl h6 h7 h8 h3
    have hia : i < A.length := by omega
    have ea : A[i]? = some A[i] := by simp [hia]
    have hmem : A[i] ∈ A := List.getElem_mem hia
    obtain ⟨p, hp1, hp2⟩ := ha.get ea
    have htake : A.take (i + 1) = A.take i ++ [A[i]] := by rw [List.take_add_one, ea]; rfl
    have hlt := hb _ hmem
    generalize A[i] = n at *
    refine W.loop (W.seq (W.region (by kernel_rfl) ?_))
    refine RW.quiet (v := .bool true) rfl rfl (by simp [AX.quiet, binV, hl, h7, h8, ev_tmp, put_some, get_set, len_set, ev, closed, closed0]; omega) (.nil ?_)
    refine W.seq (W.cond (t := true) (by simp [hl, ev_tmp, put_some, get_set, len_set, ev, closed, closed0]) (W.skip ?_))
    refine W.seq (W.block (W.seq (W.region (by kernel_rfl) ?_)))
    refine RW.quiet rfl rfl rfl ?_
    refine RW.quiet (v := .pointer (some p)) rfl rfl (by simp [AX.quiet, hl, h6, h8, ev_tmp, put_some, get_set, len_set, ev, closed, closed0, hp1]) ?_
    refine RW.quiet (v := .int .i64 n) rfl rfl (by simp [AX.quiet, hl, ev_tmp, put_some, get_set, len_set, ev, closed, closed0, hp2]) ?_
    refine RW.quiet rfl rfl rfl (.quiet rfl rfl rfl (.nil ?_))
    refine W.seq (W.seq (W.region (by kernel_rfl) ?_))
    refine RW.quiet rfl rfl rfl ?_
    refine RW.quiet (v := .bool (decide (n < 0))) rfl rfl (by simp [AX.quiet, binV, hl, ev_tmp, put_some, get_set, len_set, ev, closed, closed0]) (.nil ?_)
    by_cases hneg : n < 0
    · refine W.cond (t := true) (by simp [hl, ev_tmp, put_some, get_set, len_set, ev, closed, closed0, hneg]) (W.seq (W.region (by kernel_rfl) (.quiet rfl rfl rfl (.nil ?_))))
      exact W.ret ⟨rfl, by simp [hl, ev_tmp, put_some, get_set, len_set, ev, closed, closed0], .inl ⟨rfl, ⟨n, hmem, hneg⟩, by simp [hl, ev_tmp, put_some, get_set, len_set, ev, closed, closed0]⟩⟩
    · refine W.cond (t := false) (by simp [hl, ev_tmp, put_some, get_set, len_set, ev, closed, closed0]; omega) (W.skip ?_)
      have hpl : (pathText (A.take i)).length ≤ 160 := by
        have := pathText_len (A.take i) (fun n hn => hb n (List.mem_of_mem_take hn))
        have h2 : (A.take i).length ≤ 8 := by simp; omega
        omega
      obtain ⟨m, rfl⟩ : ∃ m : Nat, n = m := ⟨n.toNat, by omega⟩
      have hdl := dec_len 18 m (by omega)
      have hi0 : 0 < i ↔ A.take i ≠ [] := by
        constructor
        · intro h1 h2; have := congrArg List.length h2; rw [List.length_take, List.length_nil] at this; omega
        · intro h1; rcases Nat.eq_zero_or_pos i with h2 | h2
          · subst h2; simp at h1
          · exact h2
      refine W.seq (W.mono (Q := fun e t => e = .normal ∧ t.h = h ∧ ∃ s1 : ByteArray, bl s1 = (if A.take i = [] then [] else pathText (A.take i) ++ [47]) ∧ t.tm.length = 27 ∧ getT t.tm 6 = a ∧ getT t.tm 7 = .int .i64 (A.length : Int) ∧ getT t.tm 8 = .int .i64 (i : Int) ∧ getT t.tm 3 = .string s1 ∧ getT t.tm 5 = .int .i64 (m : Int)) ?_ ?_)
      · refine W.seq (W.region (by kernel_rfl) ?_)
        refine RW.quiet rfl rfl rfl ?_
        refine RW.quiet (v := .bool (decide (0 < i))) rfl rfl (by simp [AX.quiet, binV, hl, h8, ev_tmp, put_some, get_set, len_set, ev, closed, closed0]) (.nil ?_)
        by_cases c0 : 0 < i
        · refine W.cond (t := true) (by simp [hl, ev_tmp, put_some, get_set, len_set, ev, closed, closed0, c0]) ?_
          refine W.region (by kernel_rfl) ?_
          refine RW.quiet rfl rfl rfl ?_
          refine RW.quiet (v := .string ⟨(bl s ++ [47]).toArray⟩) rfl rfl (by
            have h1 : small (bl s).length 1 1 = true := small_le (by rw [hs]; omega) (by omega)
            simp [AX.quiet, binV, hl, h3, ev_tmp, put_some, get_set, len_set, ev, closed, closed0]
            simpa [bl] using h1) ?_
          refine RW.quiet rfl rfl rfl (.nil ?_)
          refine ⟨rfl, rfl, ⟨(bl s ++ [47]).toArray⟩, ?_, ?_, ?_, ?_, ?_, ?_, ?_⟩
          · rw [if_neg (hi0.1 c0), ← hs]; simp [bl]
          all_goals simp [hl, h6, h7, h8, ev_tmp, put_some, get_set, len_set, ev, closed, closed0]
        · refine W.cond (t := false) (by simp [hl, ev_tmp, put_some, get_set, len_set, ev, closed, closed0]; omega) (W.skip ?_)
          have h00 : i = 0 := by omega
          refine ⟨rfl, rfl, s, ?_, ?_, ?_, ?_, ?_, ?_, ?_⟩
          · rw [hs, h00]; simp [pathText, Lib.join_nil]
          all_goals simp [hl, h3, h6, h7, h8, ev_tmp, put_some, get_set, len_set, ev, closed, closed0]
      · rintro e ⟨tm1, h1⟩ ⟨rfl, rfl, s1, hs1, l1, g6, g7, g8, g3, g5⟩
        simp only at l1 g6 g7 g8 g3 g5
        have hs1l : (bl s1).length ≤ 161 := by
          rw [hs1]; split
          · simp
          · simp; omega
        refine W.region (by kernel_rfl) ?_
        refine RW.quiet rfl rfl rfl ?_
        refine RW.quiet rfl rfl rfl ?_
        refine RW.call1 [.int .i64 (m : Int)] rfl rfl rfl Tryz.func14 rfl (by simp [l1, g5, ev_tmp, put_some, get_set, len_set, ev, closed, closed0]) (hS m (by omega)) ?_
        refine RW.quiet (v := .string ⟨(bl s1 ++ dec m).toArray⟩) rfl rfl (by
          have h1 : small (bl s1).length (dec m).length 1 = true := small_le (by omega) (by omega)
          simp [AX.quiet, binV, l1, g3, ev_tmp, put_some, get_set, len_set, ev, closed, closed0]
          simpa [bl] using h1) ?_
        refine RW.quiet rfl rfl rfl (.nil ?_)
        refine W.region (by kernel_rfl) ?_
        refine RW.quiet (v := .int .i64 ((i + 1 : Nat) : Int)) rfl rfl (by simp [AX.quiet, binV, l1, g8, ev_tmp, put_some, get_set, len_set, ev, closed, closed0]; exact IntWalk.i64_in _ (by omega)) ?_
        refine RW.quiet rfl rfl rfl (.nil ?_)
        refine ih (i + 1) ⟨(bl s1 ++ dec m).toArray⟩ _ (by omega) ?_ ?_ ?_ ?_ ?_ ?_ ?_
        · rw [htake]
          intro k hk
          simp only [List.mem_append, List.mem_singleton] at hk
          rcases hk with hk | rfl
          · exact hpre k hk
          · omega
        · rw [htake, pathText_snoc, ← hs1]; simp [bl]
        all_goals simp [l1, g6, g7, ev_tmp, put_some, get_set, len_set, ev, closed, closed0]

/-- A path's text, as the chapter says. -/
def printed (A : List Int) : List UInt8 := if A = [] then [46] else if A.all (fun n => decide (0 ≤ n)) then pathText A else []
theorem pathText_ne {A : List Int} (h : A ≠ []) : pathText A ≠ [] := by
  obtain ⟨B, n, rfl⟩ : ∃ B n, A = B ++ [n] := ⟨A.dropLast, A.getLast h, (List.dropLast_concat_getLast h).symm⟩
  rw [pathText_snoc]
  intro e
  have := congrArg List.length e
  have h1 := dec_pos n.toNat
  simp at this
  rw [this.2] at h1; simp at h1
theorem printed_neg {A : List Int} (h : ∃ n, n ∈ A ∧ n < 0) : printed A = [] := by
  obtain ⟨n, h1, h2⟩ := h
  unfold printed
  rw [if_neg (fun e => by rw [e] at h1; cases h1), if_neg]
  simp only [List.all_eq_true, decide_eq_true_eq]
  intro h3; have := h3 n h1; omega
theorem printed_pos {A : List Int} (hA : A ≠ []) (h : ∀ n, n ∈ A → 0 ≤ n) : printed A = pathText A := by
  unfold printed
  rw [if_neg hA, if_pos]
  simp only [List.all_eq_true, decide_eq_true_eq]
  exact h

theorem f7_run (S : Caller) (h : Heap) (a : Value) (A : List Int) (ha : Ints h a A) (hA : A.length ≤ 8) (hb : ∀ n, n ∈ A → n < 2 ^ 63) (hS : ∀ m : Nat, m < 2 ^ 63 → S 14 [.int .i64 (m : Int)] h = some (.string ⟨(dec m).toArray⟩, h)) :
    ∃ n v h', callBody Tryz.prog (exec Tryz.prog S n) 7 [a] h = some (v, h') ∧ v = .string ⟨(printed A).toArray⟩ ∧ Keeps h h' := by
  refine callBody_of Tryz.func7 rfl ?_
  have hn : ([a] ++ List.replicate (Tryz.f7.ntmps - 1) undef).length = 27 := rfl
  have h0 : getT ([a] ++ List.replicate (Tryz.f7.ntmps - 1) undef) 0 = a := rfl
  show W Tryz.prog S _ ⟨[a] ++ List.replicate (Tryz.f7.ntmps - 1) undef, h⟩ _
  generalize [a] ++ List.replicate (Tryz.f7.ntmps - 1) undef = tm at hn h0
  refine W.seq (W.region (by kernel_rfl) (.quiet rfl rfl rfl (.nil ?_)))
  refine W.seq (W.region (by kernel_rfl) (.quiet rfl rfl rfl (.nil ?_)))
  refine W.seq (W.seq (W.region (by kernel_rfl) ?_))
  refine RW.quiet rfl rfl rfl ?_
  refine RW.quiet (v := .int .i64 A.length) rfl rfl (by simp [AX.quiet, hn, h0, ev_tmp, put_some, get_set, len_set, ev, closed, closed0, ha.len]) ?_
  refine RW.quiet rfl rfl rfl (.nil ?_)
  refine W.block ((loop7_run S h a A ha hA hb hS A.length 0 ⟨#[]⟩ _ (by omega) (by simp) (by simp [pathText, Lib.join_nil, bl]) (by simp [hn, ev_tmp, put_some, get_set, len_set, ev, closed, closed0]) (by simp [hn, h0, ev_tmp, put_some, get_set, len_set, ev, closed, closed0]) (by simp [hn, ev_tmp, put_some, get_set, len_set, ev, closed, closed0]) (by simp [hn, ev_tmp, put_some, get_set, len_set, ev, closed, closed0]) (by simp [hn, ev_tmp, put_some, get_set, len_set, ev, closed, closed0])).mono ?_)
  rintro e ⟨tm1, h1⟩ ⟨g0, g1, ⟨rfl, g2, g3⟩ | ⟨rfl, g2, g3⟩⟩
  · simp only at g0 g3
    subst g0
    refine ⟨.inr rfl, _, rfl, ?_, Keeps.refl _⟩
    simp only [g3, printed_neg g2]
  · simp only at g0 g1 g3
    subst g0
    refine W.seq (W.seq (W.region (by kernel_rfl) ?_))
    refine RW.quiet rfl rfl rfl ?_
    refine RW.quiet (v := .bool (decide (A = []))) rfl rfl (by
      simp [AX.quiet, binV, g1, g3, ev_tmp, put_some, get_set, len_set, ev, closed, closed0]
      rw [Bool.eq_iff_iff]; simp
      constructor
      · intro e
        refine Classical.byContradiction fun hne => pathText_ne hne ?_
        simpa [bl] using e
      · rintro rfl; simp [pathText, Lib.join_nil, bl]) (.nil ?_)
    by_cases hA0 : A = []
    · refine W.cond (t := true) (by simp [g1, ev_tmp, put_some, get_set, len_set, ev, closed, closed0, hA0]) (W.seq (W.region (by kernel_rfl) (.quiet rfl rfl rfl (.nil ?_))))
      refine W.ret ⟨.inr rfl, _, rfl, ?_, Keeps.refl _⟩
      simp [g1, ev_tmp, put_some, get_set, len_set, ev, closed, closed0, hA0, printed]
    · refine W.cond (t := false) (by simp [g1, ev_tmp, put_some, get_set, len_set, ev, closed, closed0, hA0]) (W.skip ?_)
      refine W.seq (W.region (by kernel_rfl) (.quiet rfl rfl rfl (.quiet rfl rfl rfl (.nil ?_))))
      refine W.ret ⟨.inr rfl, _, rfl, ?_, Keeps.refl _⟩
      simp [g1, g3, ev_tmp, put_some, get_set, len_set, ev, closed, closed0, printed_pos hA0 g2]

/-- rubricref22.Print. -/
def gPrint (args : List Value) (h : Heap) : Option Value :=
  match args with
  | [a] =>
    match intsOf h a with
    | some A => if A.length ≤ 8 ∧ A.all (fun n => decide (n < 2 ^ 63)) = true then some (.string ⟨(printed A).toArray⟩) else none
    | none => none
  | _ => none
theorem ok7 {NG B : Nat} {J : Map → Heap → World → Prop} {S : Caller} (hm : Tryz.prog.follows .mixedOrders = true) (hx : XOK Tryz.prog) (hN : NOK Tryz.prog) (hG : NG = Tryz.prog.globals.size) (hC : JC J) (hS : KOK Tryz.prog NG B J S)
    (h14 : ∀ h (m : Nat), m < 2 ^ 63 → S 14 [.int .i64 (m : Int)] h = some (.string ⟨(dec m).toArray⟩, h)) : KOK Tryz.prog NG B J (pureS 7 gPrint) := by
  refine pure_ok hm hx hN hG hC hS fun args h v hf hg => ?_
  unfold gPrint at hg
  split at hg
  · rename_i a
    split at hg
    · rename_i A hA
      split at hg
      · rename_i hl
        cases hg
        obtain ⟨k, v', h', h1, h2, h3⟩ := f7_run S h a A (intsOf_ints hA) hl.1 (fun n hn => by simpa using List.all_eq_true.1 hl.2 n hn) (h14 h)
        exact ⟨.string _, k, v', h', h1, h2, h3⟩
      · cases hg
    · cases hg
  · cases hg
end Go.AX
