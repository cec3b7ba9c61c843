/- A part of the proof that rubriclaw22.PathPrint returns true for every path. -/
import Derived.Test.YtgaefkhmibhhoaaGreatDoorP22b
set_option linter.unusedSimpArgs false
set_option linter.unusedVariables false
namespace Go.AX
open Go Go.Proofs

/-- What a reader's call yields: a value that reads as the numbers do, and keeps to do so. -/
theorem retS_says {F : FuncId} {g : List Value → Option (List Int × Bool)} {args : List Value} {A : List Int} {b : Bool} (hg : g args = some (A, b)) (h : Heap) (hf : Free h) : ∃ v h', retS F g F args h = some (.tuple #[v, .bool b], h') ∧ Ints h' v A ∧ Keeps h h' ∧ Free h' := by
  unfold retS
  rw [if_pos rfl, hg]
  by_cases hA : A = []
  · subst hA
    exact ⟨_, h, by simp, .inl ⟨rfl, rfl⟩, .refl _, hf⟩
  · refine ⟨_, _, by simp only [hA, if_false]; rfl, .inr ⟨h.next, 0, A.length, rfl, ?_⟩, Keeps.row hf _ _ _, hf.row _ _ _⟩
    have := takeN_all (A.map (Value.int .i64))
    simp only [List.length_map] at this
    rw [read_row, dropN_eq, List.drop_zero, this]

theorem readOf_len (s : List UInt8) : (readOf s).1.length ≤ s.length + 1 := by
  unfold readOf
  split
  · simp
  · have hv : ∀ (ps : List (List UInt8)) (l : List Nat), vals ps = some l → l.length = ps.length := by
      intro ps
      induction ps with
      | nil => intro l h; simp [vals] at h; subst h; rfl
      | cons p ps ih =>
        intro l h
        simp only [vals] at h
        cases hp : valOf p with
        | none => rw [hp] at h; cases h
        | some n =>
          rw [hp] at h
          simp only [Option.map_eq_some_iff] at h
          obtain ⟨l2, h2, rfl⟩ := h
          simp [ih l2 h2]
    split
    · rename_i l hl
      simp only [List.length_map, hv _ _ hl]
      exact (pieces_len s).1
    · simp

theorem f4_run (S : Caller) (h : Heap) (hf : Free h) (s : ByteArray)
    (h8 : ∀ h args, S 8 args h = retS 8 gRead 8 args h) (h11 : ∀ h args, S 11 args h = retS 11 gRead11 11 args h) (h10 : ∀ h args, S 10 args h = pureS 10 g10 10 args h) (h9 : ∀ h, S 9 [] h = some (.bool true, h)) :
    ∃ n v' h', callBody Tryz.prog (exec Tryz.prog S n) 4 [.string s] h = some (v', h') ∧ v' = .bool true := by
  refine callBody_of (R := fun v _ => v = .bool true) Tryz.func4 rfl ?_
  have hn : ([Value.string s] ++ List.replicate (Tryz.f4.ntmps - 1) undef).length = 33 := rfl
  have h0 : getT ([Value.string s] ++ List.replicate (Tryz.f4.ntmps - 1) undef) 0 = .string s := rfl
  show W Tryz.prog S _ ⟨[Value.string s] ++ List.replicate (Tryz.f4.ntmps - 1) undef, h⟩ _
  generalize [Value.string s] ++ List.replicate (Tryz.f4.ntmps - 1) undef = tm at hn h0
  refine W.seq (W.region (by kernel_rfl) (.quiet rfl rfl rfl (.nil ?_)))
  refine W.seq (W.mono (Q := fun e t => e = .normal ∧ t.h = h ∧ t.tm.length = 33 ∧ ∃ s' : ByteArray, s'.size ≤ 60 ∧ getT t.tm 0 = .string s') ?_ ?_)
  · refine W.seq (W.region (by kernel_rfl) ?_)
    refine RW.quiet rfl rfl rfl ?_
    refine RW.quiet (v := .int .i64 s.size) rfl rfl (by simp [AX.quiet, hn, h0, ev_tmp, put_some, get_set, len_set, ev, closed, closed0, len9]) ?_
    refine RW.quiet (v := .bool (decide (60 < s.size))) rfl rfl (by simp [AX.quiet, binV, hn, ev_tmp, put_some, get_set, len_set, ev, closed, closed0]; omega) (.nil ?_)
    by_cases h60 : 60 < s.size
    · refine W.cond (t := true) (by simp [hn, ev_tmp, put_some, get_set, len_set, ev, closed, closed0, h60]) (W.region (by kernel_rfl) ?_)
      refine RW.quiet rfl rfl rfl ?_
      refine RW.quiet (v := .string ⟨((bl s).take 60).toArray⟩) rfl rfl (by
        have u9 := Tryz.underlying9
        have e5 : (bl s).length = s.size := rfl
        have e6 : (60 : Int) ≤ s.size := by omega
        simp [AX.quiet, sliceV, u9, boundOf, hn, h0, ev_tmp, put_some, get_set, len_set, ev, closed, closed0, e5, e6]) ?_
      refine RW.quiet rfl rfl rfl (.nil ?_)
      refine ⟨rfl, rfl, by simp [hn, ev_tmp, put_some, get_set, len_set, ev, closed, closed0], ⟨((bl s).take 60).toArray⟩, ?_, by simp [hn, ev_tmp, put_some, get_set, len_set, ev, closed, closed0]⟩
      show ((bl s).take 60).toArray.size ≤ 60
      simp; omega
    · refine W.cond (t := false) (by simp [hn, ev_tmp, put_some, get_set, len_set, ev, closed, closed0]; omega) (W.skip ⟨rfl, rfl, by simp [hn, ev_tmp, put_some, get_set, len_set, ev, closed, closed0], s, by omega, by simp [hn, h0, ev_tmp, put_some, get_set, len_set, ev, closed, closed0]⟩)
  · rintro e ⟨tm1, h1⟩ ⟨rfl, rfl, l1, s', hs', g0⟩
    simp only at l1 g0
    have hg8 : gRead [.string s'] = some ((readOf (bl s')).1, (readOf (bl s')).2) := by simp [gRead]; omega
    have hg11 : gRead11 [.string s'] = some ((readOf (bl s')).1, (readOf (bl s')).2) := by simp [gRead11, readRef_eq]; omega
    have hlen := readOf_len (bl s')
    rw [bl_size] at hlen
    generalize (readOf (bl s')).1 = A at *
    generalize (readOf (bl s')).2 = b at *
    obtain ⟨v1, H1, e1, i1, k1, f1⟩ := retS_says (F := 8) hg8 h1 hf
    obtain ⟨v2, H2, e2, i2, k2, f2⟩ := retS_says (F := 11) hg11 H1 f1
    have i1' := i1.keeps k2
    refine W.seq (W.region (by kernel_rfl) ?_)
    refine RW.quiet rfl rfl rfl ?_
    refine RW.call1 [.string s'] rfl rfl rfl Tryz.func8 rfl (by simp [l1, g0, ev_tmp, put_some, get_set, len_set, ev, closed, closed0]) (by rw [h8]; exact e1) ?_
    refine RW.quiet rfl rfl rfl ?_
    refine RW.quiet (v := v1) rfl rfl (by simp [AX.quiet, l1, ev_tmp, put_some, get_set, len_set, ev, closed, closed0]) ?_
    refine RW.quiet (v := .bool b) rfl rfl (by simp [AX.quiet, l1, ev_tmp, put_some, get_set, len_set, ev, closed, closed0]) ?_
    refine RW.quiet rfl rfl rfl (.quiet rfl rfl rfl (.nil ?_))
    refine W.seq (W.region (by kernel_rfl) ?_)
    refine RW.quiet rfl rfl rfl ?_
    refine RW.call1 [.string s'] rfl rfl rfl Tryz.func11 rfl (by simp [l1, g0, ev_tmp, put_some, get_set, len_set, ev, closed, closed0]) (by rw [h11]; exact e2) ?_
    refine RW.quiet rfl rfl rfl ?_
    refine RW.quiet (v := v2) rfl rfl (by simp [AX.quiet, l1, ev_tmp, put_some, get_set, len_set, ev, closed, closed0]) ?_
    refine RW.quiet (v := .bool b) rfl rfl (by simp [AX.quiet, l1, ev_tmp, put_some, get_set, len_set, ev, closed, closed0]) ?_
    refine RW.quiet rfl rfl rfl (.quiet rfl rfl rfl (.nil ?_))
    have h10' : S 10 [v1, v2] H2 = some (.bool true, H2) := by
      rw [h10]
      have : A.length < 4611686018427387904 := by omega
      simp [pureS, g10, i1'.of, i2.of, this]
    refine W.seq (W.region (by kernel_rfl) ?_)
    refine RW.quiet rfl rfl rfl (.quiet rfl rfl rfl ?_)
    refine RW.quiet (v := .bool true) rfl rfl (by simp [AX.quiet, binV, eqVals, Tryz.underlying4, l1, ev_tmp, put_some, get_set, len_set, ev, closed, closed0]) ?_
    refine RW.quiet rfl rfl rfl ?_
    refine RW.quiet (by simp [wantedT, guardVal, undef, l1, ev_tmp, put_some, get_set, len_set, ev, closed, closed0]) rfl rfl ?_
    refine RW.quiet (by simp [wantedT, guardVal, undef, l1, ev_tmp, put_some, get_set, len_set, ev, closed, closed0]) rfl rfl ?_
    refine RW.call1 [v1, v2] (by simp [wantedT, guardVal, undef, l1, ev_tmp, put_some, get_set, len_set, ev, closed, closed0]) rfl rfl Tryz.func10 rfl (by simp [l1, ev_tmp, put_some, get_set, len_set, ev, closed, closed0]) h10' ?_
    refine RW.quiet (v := .bool true) rfl rfl (by simp [AX.quiet, l1, ev_tmp, put_some, get_set, len_set, ev, closed, closed0]) ?_
    refine RW.quiet rfl rfl rfl ?_
    refine RW.call1 [] (by simp [wantedT, guardVal, undef, l1, ev_tmp, put_some, get_set, len_set, ev, closed, closed0]) rfl rfl Tryz.func9 rfl (by simp) (h9 H2) ?_
    refine RW.quiet (v := .bool true) rfl rfl (by simp [AX.quiet, l1, ev_tmp, put_some, get_set, len_set, ev, closed, closed0]) ?_
    refine RW.quiet rfl rfl rfl (.nil ?_)
    refine W.ret ⟨.inr rfl, _, rfl, ?_⟩
    simp [l1, ev_tmp, put_some, get_set, len_set, ev, closed, closed0]
end Go.AX
