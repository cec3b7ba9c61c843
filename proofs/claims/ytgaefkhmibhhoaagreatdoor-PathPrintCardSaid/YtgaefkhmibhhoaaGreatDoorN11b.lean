/- A part of the proof that rubriclaw22.PathPrint returns true for every path. -/
import Derived.Test.YtgaefkhmibhhoaaGreatDoorN11
set_option linter.unusedSimpArgs false
set_option linter.unusedVariables false
namespace Go.AX
open Go Go.Proofs

def refAt (s : List UInt8) (d i : Nat) (w : List UInt8) (l : List Nat) : Option (List Nat) := if d = 0 then some l else refGo (s.drop i) w l

theorem loop11_run (S : Caller) (h0 : Heap) (s : ByteArray) (hs : s.size ≤ 200) (hS : ∀ h (m : Nat), m < 2 ^ 63 → S 14 [.int .i64 (m : Int)] h = some (.string ⟨(dec m).toArray⟩, h)) :
    ∀ (d i : Nat) (w : ByteArray) (l : List Nat) (o : Value) (tm : Tm) (h : Heap), s.size + 1 = i + d → w.size ≤ i → l.length ≤ i → Acc 3 h0 h o ((l.map fun n : Nat => (n : Int)).map (Value.int .i64)) → tm.length = 75 → getT tm 0 = .string s → getT tm 4 = o → getT tm 5 = .string w → getT tm 6 = .int .i64 (i : Int) →
    W Tryz.prog S loop11 ⟨tm, h⟩ fun e t => t.tm.length = 75 ∧ ((e = .ret ∧ refAt (bl s) d i (bl w) l = none ∧ Acc 3 h0 t.h (.slice none 0 0) [] ∧ getT t.tm 2 = .slice none 0 0 ∧ getT t.tm 3 = .bool false) ∨ (e = .exit 0 ∧ ∃ l', refAt (bl s) d i (bl w) l = some l' ∧ Acc 3 h0 t.h (getT t.tm 4) ((l'.map fun n : Nat => (n : Int)).map (Value.int .i64)))) := by
  intro d
  induction d with
  | zero =>
    intro i w l o tm h hi hw hli hacc hl g0 g4 g5 g6
    refine W.loop (W.seq (W.seq (W.region (by kernel_rfl) ?_)))
    refine RW.quiet rfl rfl rfl (.quiet rfl rfl rfl ?_)
    refine RW.quiet (v := .int .i64 s.size) rfl rfl (by simp [AX.quiet, hl, g0, ev_tmp, put_some, get_set, len_set, ev, closed, closed0, len9]) ?_
    refine RW.quiet (v := .bool false) rfl rfl (by simp [AX.quiet, binV, hl, g6, ev_tmp, put_some, get_set, len_set, ev, closed, closed0]; omega) (.nil ?_)
    refine W.cond (t := false) (by simp [hl, ev_tmp, put_some, get_set, len_set, ev, closed, closed0]) (W.exit ⟨by simp [hl, ev_tmp, put_some, get_set, len_set, ev, closed, closed0], .inr ⟨rfl, l, rfl, ?_⟩⟩)
    simp only [put_some, get_set]
    simpa [hl, g4, ev_tmp, put_some, get_set, len_set, ev, closed, closed0] using hacc
  | succ d ih =>
    intro i w l o tm h hi hw hli hacc hl g0 g4 g5 g6
    have hle : i ≤ s.size := by omega
    have hra : refAt (bl s) (d + 1) i (bl w) l = refGo ((bl s).drop i) (bl w) l := by simp [refAt]
    rw [hra]
    refine W.loop (W.seq (W.seq (W.region (by kernel_rfl) ?_)))
    refine RW.quiet rfl rfl rfl (.quiet rfl rfl rfl ?_)
    refine RW.quiet (v := .int .i64 s.size) rfl rfl (by simp [AX.quiet, hl, g0, ev_tmp, put_some, get_set, len_set, ev, closed, closed0, len9]) ?_
    refine RW.quiet (v := .bool true) rfl rfl (by simp [AX.quiet, binV, hl, g6, ev_tmp, put_some, get_set, len_set, ev, closed, closed0]; omega) (.nil ?_)
    refine W.cond (t := true) (by simp [hl, ev_tmp, put_some, get_set, len_set, ev, closed, closed0]) (W.skip ?_)
    -- what is done behind the round's own work
    have hpost : ∀ (w' : ByteArray) (l' : List Nat) (o' : Value) (tm' : Tm) (h' : Heap), w'.size ≤ i + 1 → l'.length ≤ i + 1 → refGo ((bl s).drop i) (bl w) l = refAt (bl s) d (i + 1) (bl w') l' → Acc 3 h0 h' o' ((l'.map fun n : Nat => (n : Int)).map (Value.int .i64)) → tm'.length = 75 → getT tm' 0 = .string s → getT tm' 4 = o' → getT tm' 5 = .string w' → getT tm' 6 = .int .i64 (i : Int) →
        W Tryz.prog S (match loop11 with | .loop (.seq _ (.seq _ c)) => c | _ => .skip) ⟨tm', h'⟩ (nxt (fun t => W Tryz.prog S loop11 t fun e t => t.tm.length = 75 ∧ ((e = .ret ∧ refGo ((bl s).drop i) (bl w) l = none ∧ Acc 3 h0 t.h (.slice none 0 0) [] ∧ getT t.tm 2 = .slice none 0 0 ∧ getT t.tm 3 = .bool false) ∨ (e = .exit 0 ∧ ∃ l', refGo ((bl s).drop i) (bl w) l = some l' ∧ Acc 3 h0 t.h (getT t.tm 4) ((l'.map fun n : Nat => (n : Int)).map (Value.int .i64))))) (fun e t => t.tm.length = 75 ∧ ((e = .ret ∧ refGo ((bl s).drop i) (bl w) l = none ∧ Acc 3 h0 t.h (.slice none 0 0) [] ∧ getT t.tm 2 = .slice none 0 0 ∧ getT t.tm 3 = .bool false) ∨ (e = .exit 0 ∧ ∃ l', refGo ((bl s).drop i) (bl w) l = some l' ∧ Acc 3 h0 t.h (getT t.tm 4) ((l'.map fun n : Nat => (n : Int)).map (Value.int .i64)))))) := by
      intro w' l' o' tm' h' hw' hl2 hgo hacc' q1 q0 q4 q5 q6
      refine W.region (by kernel_rfl) ?_
      refine RW.quiet rfl rfl rfl ?_
      refine RW.quiet (v := .int .i64 ((i + 1 : Nat) : Int)) rfl rfl (by simp [AX.quiet, binV, q1, q6, ev_tmp, put_some, get_set, len_set, ev, closed, closed0]; exact IntWalk.i64_in _ (by omega)) ?_
      refine RW.quiet rfl rfl rfl (.nil ?_)
      simp only [nxt]
      rw [hgo]
      refine ih (i + 1) w' l' o' _ h' (by omega) hw' hl2 hacc' ?_ ?_ ?_ ?_ ?_
      all_goals simp [q1, q0, q4, q5, ev_tmp, put_some, get_set, len_set, ev, closed, closed0]
    -- a piece's end
    have hend : ∀ (tm' : Tm), tm'.length = 75 → getT tm' 0 = .string s → getT tm' 4 = o → getT tm' 5 = .string w → getT tm' 6 = .int .i64 (i : Int) → (refGo ((bl s).drop i) (bl w) l = match valRef (bl w) with | some n => refAt (bl s) d (i + 1) [] (l ++ [n]) | none => none) →
        W Tryz.prog S (match loop11 with | .loop (.seq _ (.seq (.block _ (.seq _ c)) _)) => c | _ => .skip) ⟨tm', h⟩ fun e t => t.tm.length = 75 ∧ ((e = .ret ∧ refGo ((bl s).drop i) (bl w) l = none ∧ Acc 3 h0 t.h (.slice none 0 0) [] ∧ getT t.tm 2 = .slice none 0 0 ∧ getT t.tm 3 = .bool false) ∨ (e = .normal ∧ ∃ n, refGo ((bl s).drop i) (bl w) l = refAt (bl s) d (i + 1) [] (l ++ [n]) ∧ Acc 3 h0 t.h (getT t.tm 4) (((l ++ [n]).map fun n : Nat => (n : Int)).map (Value.int .i64)) ∧ getT t.tm 0 = .string s ∧ getT t.tm 5 = .string ⟨#[]⟩ ∧ getT t.tm 6 = .int .i64 (i : Int))) := by
      intro tm' q1 q0 q4 q5 q6 hgo
      refine W.seq (W.region (by kernel_rfl) (.quiet rfl rfl rfl (.nil ?_)))
      refine W.seq (W.seq (W.region (by kernel_rfl) (.quiet rfl rfl rfl (.nil ?_))))
      refine W.block ((inner11_run S h w (by omega) (i : Int) (.string s) o w.size 0 0 _ (by omega) (by omega) (by decide) (by simp [q1, ev_tmp, put_some, get_set, len_set, ev, closed, closed0]) (by simp [q1, q0, ev_tmp, put_some, get_set, len_set, ev, closed, closed0]) (by simp [q1, q4, ev_tmp, put_some, get_set, len_set, ev, closed, closed0]) (by simp [q1, q6, ev_tmp, put_some, get_set, len_set, ev, closed, closed0]) (by simp [q1, q5, ev_tmp, put_some, get_set, len_set, ev, closed, closed0]) (by simp [q1, ev_tmp, put_some, get_set, len_set, ev, closed, closed0]) (by simp [q1, ev_tmp, put_some, get_set, len_set, ev, closed, closed0])).mono ?_)
      rintro e ⟨tm1, h1⟩ ⟨e1, r1, ⟨rfl, r2, r3, r4⟩ | ⟨rfl, m, hm, r2, r7, r5, r0, r4, r6⟩⟩
      · simp only at e1 r1 r3 r4
        subst e1
        simp only [List.drop_zero] at r2
        refine ⟨r1, .inl ⟨rfl, ?_, hacc.none, r3, r4⟩⟩
        rw [hgo]; simp [valRef, r2]
      · simp only at e1 r1 r7 r5 r0 r4 r6
        subst e1
        simp only [List.drop_zero] at r2
        refine W.seq (W.seq (W.region (by kernel_rfl) ?_))
        refine RW.quiet rfl rfl rfl ?_
        refine RW.quiet (v := .bool (decide (bl w = []))) rfl rfl (by simp [AX.quiet, binV, r1, r5, ev_tmp, put_some, get_set, len_set, ev, closed, closed0]; rw [Bool.eq_iff_iff]; simp [bl]) ?_
        refine RW.quiet rfl rfl rfl ?_
        by_cases hw0 : bl w = []
        · refine RW.skip (by simp [wantedT, guardVal, undef, r1, ev_tmp, put_some, get_set, len_set, ev, closed, closed0, hw0]) ?_
          refine RW.skip (by simp [wantedT, guardVal, undef, r1, ev_tmp, put_some, get_set, len_set, ev, closed, closed0, hw0]) ?_
          refine RW.skip (by simp [wantedT, guardVal, undef, r1, ev_tmp, put_some, get_set, len_set, ev, closed, closed0, hw0]) ?_
          refine RW.skip (by simp [wantedT, guardVal, undef, r1, ev_tmp, put_some, get_set, len_set, ev, closed, closed0, hw0]) ?_
          refine RW.quiet (v := .bool true) rfl rfl (by simp [AX.quiet, r1, ev_tmp, put_some, get_set, len_set, ev, closed, closed0, hw0]) (.nil ?_)
          refine W.cond (t := true) (by simp [r1, ev_tmp, put_some, get_set, len_set, ev, closed, closed0]) (W.seq (W.region (by kernel_rfl) (.quiet rfl rfl rfl (.quiet rfl rfl rfl (.nil ?_)))))
          refine W.ret ⟨by simp [r1, ev_tmp, put_some, get_set, len_set, ev, closed, closed0], .inl ⟨rfl, ?_, hacc.none, by simp [r1, ev_tmp, put_some, get_set, len_set, ev, closed, closed0], by simp [r1, ev_tmp, put_some, get_set, len_set, ev, closed, closed0]⟩⟩
          have hv : valRef (bl w) = none := by unfold valRef; rw [r2]; simp [hw0]
          rw [hgo, hv]
        · refine RW.quiet (by simp [wantedT, guardVal, undef, r1, ev_tmp, put_some, get_set, len_set, ev, closed, closed0, hw0]) rfl rfl ?_
          refine RW.call1 [.int .i64 (m : Int)] (by simp [wantedT, guardVal, undef, r1, ev_tmp, put_some, get_set, len_set, ev, closed, closed0, hw0]) rfl rfl Tryz.func14 rfl (by simp [r1, r7, ev_tmp, put_some, get_set, len_set, ev, closed, closed0]) (hS h1 m (by omega)) ?_
          refine RW.quiet (by simp [wantedT, guardVal, undef, r1, ev_tmp, put_some, get_set, len_set, ev, closed, closed0, hw0]) rfl rfl ?_
          refine RW.quiet (v := .bool (decide (dec m ≠ bl w))) (by simp [wantedT, guardVal, undef, r1, ev_tmp, put_some, get_set, len_set, ev, closed, closed0, hw0]) rfl (by simp [AX.quiet, binV, r1, r5, ev_tmp, put_some, get_set, len_set, ev, closed, closed0]; rw [Bool.eq_iff_iff]; simp [bl]; exact decide_eq_true_iff.symm) ?_
          refine RW.quiet (v := .bool (decide (dec m ≠ bl w))) rfl rfl (by simp [AX.quiet, r1, ev_tmp, put_some, get_set, len_set, ev, closed, closed0, hw0]) (.nil ?_)
          by_cases hdw : dec m = bl w
          · refine W.cond (t := false) (by simp [r1, ev_tmp, put_some, get_set, len_set, ev, closed, closed0, hdw]) (W.skip ?_)
            refine W.seq (W.region (by kernel_rfl) ?_)
            refine RW.quiet rfl rfl rfl (.quiet rfl rfl rfl ?_)
            refine RW.fresh (n := ⟨[.int .i64 (m : Int)], 3, 1, some 1⟩) rfl rfl rfl (by simp [AX.fresh, r1, r7, ev_tmp, put_some, get_set, len_set, ev, closed, closed0, build22]) ?_
            obtain ⟨ti, hi1, hi2, hi3⟩ := info3
            obtain ⟨o', h', happ, hacc'⟩ := Acc.append und22 hi1 hi2 (by omega) zero3 rfl (hacc.other [.int .i64 (m : Int)] 3 1) (by simp; omega) (q := h1.next) (u := .int .i64 (m : Int)) (by rw [read_row]; rfl) rfl
            refine RW.effect (v := o') (h1 := h') rfl rfl rfl (fun k => by simpa [AX.effect, r1, r4, ev_tmp, put_some, get_set, len_set, ev, closed, closed0, New.at] using happ) ?_
            refine RW.quiet rfl rfl rfl (.nil ?_)
            refine W.region (by kernel_rfl) (.quiet rfl rfl rfl (.nil ?_))
            refine ⟨by simp [r1, ev_tmp, put_some, get_set, len_set, ev, closed, closed0], .inr ⟨rfl, m, ?_, ?_, ?_⟩⟩
            · rw [hgo]; simp [valRef, r2, hw0, hdw]
            · simpa [r1, ev_tmp, put_some, get_set, len_set, ev, closed, closed0] using hacc'
            · simp [r1, r0, r6, ev_tmp, put_some, get_set, len_set, ev, closed, closed0]
          · refine W.cond (t := true) (by simp [r1, ev_tmp, put_some, get_set, len_set, ev, closed, closed0, hdw]) (W.seq (W.region (by kernel_rfl) (.quiet rfl rfl rfl (.quiet rfl rfl rfl (.nil ?_)))))
            refine W.ret ⟨by simp [r1, ev_tmp, put_some, get_set, len_set, ev, closed, closed0], .inl ⟨rfl, ?_, hacc.none, by simp [r1, ev_tmp, put_some, get_set, len_set, ev, closed, closed0], by simp [r1, ev_tmp, put_some, get_set, len_set, ev, closed, closed0]⟩⟩
            rw [hgo]; simp [valRef, r2, hdw]
    refine W.seq (W.block (W.seq (W.seq (W.region (by kernel_rfl) ?_))))
    refine RW.quiet rfl rfl rfl (.quiet rfl rfl rfl ?_)
    refine RW.quiet (v := .int .i64 s.size) rfl rfl (by simp [AX.quiet, hl, g0, ev_tmp, put_some, get_set, len_set, ev, closed, closed0, len9]) ?_
    refine RW.quiet (v := .bool (decide (i < s.size))) rfl rfl (by simp [AX.quiet, binV, hl, g6, ev_tmp, put_some, get_set, len_set, ev, closed, closed0]) ?_
    refine RW.quiet rfl rfl rfl ?_
    by_cases hlt : i < s.size
    · have hlt' : i < (bl s).length := by rw [bl_size]; omega
      have hb : (bl s)[i]? = some s[i] := bl_get s i hlt
      have hdrop : (bl s).drop i = s[i] :: (bl s).drop (i + 1) := by
        rw [List.drop_eq_getElem_cons hlt']
        rfl
      have hi9 := idx9 hb
      have hd0 : d ≠ 0 := by omega
      generalize s[i] = c at *
      refine RW.quiet (by simp [wantedT, guardVal, undef, hl, ev_tmp, put_some, get_set, len_set, ev, closed, closed0, hlt]) rfl rfl ?_
      refine RW.quiet (by simp [wantedT, guardVal, undef, hl, ev_tmp, put_some, get_set, len_set, ev, closed, closed0, hlt]) rfl rfl ?_
      refine RW.quiet (v := .int .u8 c.toNat) (by simp [wantedT, guardVal, undef, hl, ev_tmp, put_some, get_set, len_set, ev, closed, closed0, hlt]) rfl (by simp [AX.quiet, hl, g0, g6, ev_tmp, put_some, get_set, len_set, ev, closed, closed0, hi9]) ?_
      refine RW.quiet (v := .bool (decide (c ≠ 47))) (by simp [wantedT, guardVal, undef, hl, ev_tmp, put_some, get_set, len_set, ev, closed, closed0, hlt]) rfl (by
        simp [AX.quiet, binV, hl, ev_tmp, put_some, get_set, len_set, ev, closed, closed0]
        rw [Bool.eq_iff_iff]; simp
        rw [← UInt8.toNat_inj]
        show ¬ ((c.toNat : Int) = 47) ↔ ¬ (c.toNat = 47)
        omega) ?_
      refine RW.quiet (v := .bool (decide (c ≠ 47))) rfl rfl (by simp [AX.quiet, hl, ev_tmp, put_some, get_set, len_set, ev, closed, closed0, hlt]) (.nil ?_)
      by_cases hc : c = 47
      · refine W.cond (t := false) (by simp [hl, ev_tmp, put_some, get_set, len_set, ev, closed, closed0, hc]) (W.skip ?_)
        refine (hend _ (by simp [hl, ev_tmp, put_some, get_set, len_set, ev, closed, closed0]) (by simp [hl, g0, ev_tmp, put_some, get_set, len_set, ev, closed, closed0]) (by simp [hl, g4, ev_tmp, put_some, get_set, len_set, ev, closed, closed0]) (by simp [hl, g5, ev_tmp, put_some, get_set, len_set, ev, closed, closed0]) (by simp [hl, g6, ev_tmp, put_some, get_set, len_set, ev, closed, closed0]) (by
          rw [hdrop, refGo, if_neg (by simp [hc])]
          simp [refAt, hd0]
          rfl)).mono ?_
        rintro e ⟨tm1, h1⟩ ⟨r1, ⟨rfl, r2⟩ | ⟨rfl, n, r2, r3, r0, r5, r6⟩⟩
        · exact ⟨r1, .inl ⟨rfl, r2⟩⟩
        · simp only at r1 r3 r0 r5 r6
          exact hpost ⟨#[]⟩ (l ++ [n]) _ tm1 h1 (by show 0 ≤ i + 1; omega) (by simp; omega) r2 r3 r1 r0 rfl r5 r6
      · refine W.cond (t := true) (by simp [hl, ev_tmp, put_some, get_set, len_set, ev, closed, closed0, hc]) (W.seq (W.region (by kernel_rfl) ?_))
        refine RW.quiet rfl rfl rfl (.quiet rfl rfl rfl (.quiet rfl rfl rfl (.quiet rfl rfl rfl ?_)))
        refine RW.quiet (v := .int .i64 ((i + 1 : Nat) : Int)) rfl rfl (by simp [AX.quiet, binV, hl, g6, ev_tmp, put_some, get_set, len_set, ev, closed, closed0]; exact IntWalk.i64_in _ (by omega)) ?_
        refine RW.quiet (v := .string ⟨#[c]⟩) rfl rfl (by
          have u9 := Tryz.underlying9
          have e1 : ((i : Int) + 1).toNat = i + 1 := by omega
          have e2 : (i : Int) + 1 ≤ s.size := by omega
          have e3 : 0 ≤ (i : Int) + 1 := by omega
          have e4 : (i : Int) ≤ (i : Int) + 1 := by omega
          have e5 : (bl s).length = s.size := rfl
          have e6 : i + 1 - i = 1 := by omega
          simp [AX.quiet, sliceV, u9, boundOf, hl, g0, g6, ev_tmp, put_some, get_set, len_set, ev, closed, closed0, e1, e2, e3, e4, e5, e6, hdrop]) ?_
        refine RW.quiet (v := .string ⟨(bl w ++ [c]).toArray⟩) rfl rfl (by
          have h1 : small (bl w).length 1 1 = true := small_le (by rw [bl_size]; omega) (by omega)
          simp [AX.quiet, binV, hl, g5, ev_tmp, put_some, get_set, len_set, ev, closed, closed0]
          simpa [bl] using h1) ?_
        refine RW.quiet rfl rfl rfl (.nil ?_)
        refine W.exit ?_
        have hgo : refGo ((bl s).drop i) (bl w) l = refAt (bl s) d (i + 1) (bl ⟨(bl w ++ [c]).toArray⟩) l := by
          rw [hdrop, refGo, if_pos hc]
          simp [refAt, hd0, bl]
        exact hpost ⟨(bl w ++ [c]).toArray⟩ l o _ h (by show (bl w ++ [c]).toArray.size ≤ i + 1; simp [bl_size]; omega) (by omega) hgo hacc (by simp [hl, ev_tmp, put_some, get_set, len_set, ev, closed, closed0]) (by simp [hl, g0, ev_tmp, put_some, get_set, len_set, ev, closed, closed0]) (by simp [hl, g4, ev_tmp, put_some, get_set, len_set, ev, closed, closed0]) (by simp [hl, ev_tmp, put_some, get_set, len_set, ev, closed, closed0]) (by simp [hl, g6, ev_tmp, put_some, get_set, len_set, ev, closed, closed0])
    · have hd0 : d = 0 := by omega
      have hdrop : (bl s).drop i = [] := List.drop_eq_nil_of_le (by rw [bl_size]; omega)
      iterate 4 refine RW.skip (by simp [wantedT, guardVal, undef, hl, ev_tmp, put_some, get_set, len_set, ev, closed, closed0, hlt]) ?_
      refine RW.quiet (v := .bool false) rfl rfl (by simp [AX.quiet, hl, ev_tmp, put_some, get_set, len_set, ev, closed, closed0, hlt]) (.nil ?_)
      refine W.cond (t := false) (by simp [hl, ev_tmp, put_some, get_set, len_set, ev, closed, closed0]) (W.skip ?_)
      refine (hend _ (by simp [hl, ev_tmp, put_some, get_set, len_set, ev, closed, closed0]) (by simp [hl, g0, ev_tmp, put_some, get_set, len_set, ev, closed, closed0]) (by simp [hl, g4, ev_tmp, put_some, get_set, len_set, ev, closed, closed0]) (by simp [hl, g5, ev_tmp, put_some, get_set, len_set, ev, closed, closed0]) (by simp [hl, g6, ev_tmp, put_some, get_set, len_set, ev, closed, closed0]) (by
        rw [hdrop, refGo]
        simp only [refAt, hd0, if_true]
        rfl)).mono ?_
      rintro e ⟨tm1, h1⟩ ⟨r1, ⟨rfl, r2⟩ | ⟨rfl, n, r2, r3, r0, r5, r6⟩⟩
      · exact ⟨r1, .inl ⟨rfl, r2⟩⟩
      · simp only at r1 r3 r0 r5 r6
        exact hpost ⟨#[]⟩ (l ++ [n]) _ tm1 h1 (by show 0 ≤ i + 1; omega) (by simp; omega) r2 r3 r1 r0 rfl r5 r6

/-- What the chapter's own reader finds. -/
def readRef (s : List UInt8) : List Int × Bool :=
  if s = [46] then ([], true) else match refGo s [] [] with
    | some l => (l.map fun n : Nat => (n : Int), true)
    | none => ([], false)
def gRead11 (args : List Value) : Option (List Int × Bool) :=
  match args with
  | [.string s] => if s.size ≤ 200 then some (readRef (bl s)) else none
  | _ => none
theorem f11_run (S : Caller) (h : Heap) (hf : Free h) (s : ByteArray) (hs : s.size ≤ 200) (hS : ∀ h (m : Nat), m < 2 ^ 63 → S 14 [.int .i64 (m : Int)] h = some (.string ⟨(dec m).toArray⟩, h)) :
    ∃ n v' h', callBody Tryz.prog (exec Tryz.prog S n) 11 [.string s] h = some (v', h') ∧ ∃ o, v' = .tuple #[o, .bool (readRef (bl s)).2] ∧ Acc 3 h h' o ((readRef (bl s)).1.map (Value.int .i64)) := by
  refine callBody_of Tryz.func11 rfl ?_
  have hn : ([Value.string s] ++ List.replicate (Tryz.f11.ntmps - 1) undef).length = 75 := rfl
  have h0 : getT ([Value.string s] ++ List.replicate (Tryz.f11.ntmps - 1) undef) 0 = .string s := rfl
  show W Tryz.prog S _ ⟨[Value.string s] ++ List.replicate (Tryz.f11.ntmps - 1) undef, h⟩ _
  generalize [Value.string s] ++ List.replicate (Tryz.f11.ntmps - 1) undef = tm at hn h0
  refine W.seq (W.region (by kernel_rfl) (.quiet rfl rfl rfl (.quiet rfl rfl rfl (.nil ?_))))
  refine W.seq (W.seq (W.region (by kernel_rfl) ?_))
  refine RW.quiet rfl rfl rfl ?_
  refine RW.quiet (v := .bool (decide (bl s = [46]))) rfl rfl (by simp [AX.quiet, binV, hn, h0, ev_tmp, put_some, get_set, len_set, ev, closed, closed0]; rw [Bool.eq_iff_iff]; simp [bl]; exact decide_eq_true_iff.symm) (.nil ?_)
  by_cases hd : bl s = [46]
  · refine W.cond (t := true) (by simp [hn, ev_tmp, put_some, get_set, len_set, ev, closed, closed0, hd]) (W.seq (W.region (by kernel_rfl) (.quiet rfl rfl rfl (.quiet rfl rfl rfl (.nil ?_)))))
    refine W.ret ⟨.inr rfl, _, rfl, .slice none 0 0, ?_, ?_⟩
    · simp [hn, ev_tmp, put_some, get_set, len_set, ev, closed, closed0, hd, readRef]
    · simpa [readRef, hd] using Acc.start (e := 3) hf
  · refine W.cond (t := false) (by simp [hn, ev_tmp, put_some, get_set, len_set, ev, closed, closed0, hd]) (W.skip ?_)
    refine W.seq (W.region (by kernel_rfl) (.quiet rfl rfl rfl (.nil ?_)))
    refine W.seq (W.region (by kernel_rfl) (.quiet rfl rfl rfl (.nil ?_)))
    refine W.seq (W.seq (W.region (by kernel_rfl) (.quiet rfl rfl rfl (.nil ?_))))
    have hra : refAt (bl s) (s.size + 1) 0 (bl ⟨#[]⟩) [] = refGo (bl s) [] [] := by simp [refAt, bl]
    refine W.block ((loop11_run S h s hs hS (s.size + 1) 0 ⟨#[]⟩ [] (.slice none 0 0) _ h (by omega) (by decide) (by simp) (by simpa using Acc.start hf) (by simp [hn, ev_tmp, put_some, get_set, len_set, ev, closed, closed0]) (by simp [hn, h0, ev_tmp, put_some, get_set, len_set, ev, closed, closed0]) (by simp [hn, ev_tmp, put_some, get_set, len_set, ev, closed, closed0]) (by simp [hn, ev_tmp, put_some, get_set, len_set, ev, closed, closed0]) (by simp [hn, ev_tmp, put_some, get_set, len_set, ev, closed, closed0])).mono ?_)
    rw [hra]
    rintro e ⟨tm1, h1⟩ ⟨g1, ⟨rfl, g2, g3, g4, g5⟩ | ⟨rfl, l, g2, g3⟩⟩
    · simp only at g1 g3 g4 g5
      refine ⟨.inr rfl, _, rfl, .slice none 0 0, ?_, ?_⟩
      · simp [g4, g5, readRef, hd, g2]
      · simpa [readRef, hd, g2] using g3
    · simp only at g1 g3
      refine W.seq (W.region (by kernel_rfl) (.quiet rfl rfl rfl (.quiet rfl rfl rfl (.quiet rfl rfl rfl (.nil ?_)))))
      refine W.ret ⟨.inr rfl, _, rfl, getT tm1 4, ?_, ?_⟩
      · simp [g1, ev_tmp, put_some, get_set, len_set, ev, closed, closed0, readRef, hd, g2]
      · simpa [readRef, hd, g2] using g3
theorem ok11 {NG B : Nat} {J : Map → Heap → World → Prop} {S : Caller} (hm : Tryz.prog.follows .mixedOrders = true) (hx : XOK Tryz.prog) (hN : NOK Tryz.prog) (hG : NG = Tryz.prog.globals.size) (hC : JC J) (hS : KOK Tryz.prog NG B J S)
    (h14 : ∀ h (m : Nat), m < 2 ^ 63 → S 14 [.int .i64 (m : Int)] h = some (.string ⟨(dec m).toArray⟩, h)) : KOK Tryz.prog NG B J (retS 11 gRead11) := by
  refine ret_ok hm hx hN hG hC hS fun args h A b hf hg => ?_
  unfold gRead11 at hg
  split at hg
  · rename_i s
    split at hg
    · rename_i hs
      have hg := Option.some.inj hg
      obtain ⟨k, v', h', h1, o, h2, h3⟩ := f11_run S h hf s hs h14
      rw [hg] at h2 h3
      exact ⟨k, v', h', h1, o, h2, h3⟩
    · cases hg
  · cases hg
end Go.AX
