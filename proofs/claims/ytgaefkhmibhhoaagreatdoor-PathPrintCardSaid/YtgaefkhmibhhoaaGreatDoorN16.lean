/- A part of the proof that rubriclaw22.PathPrint returns true for every path. -/
import Derived.Test.YtgaefkhmibhhoaaGreatDoorN10
import Derived.Laws.RangeString
import Derived.Laws.RangeAny
set_option linter.unusedSimpArgs false
set_option linter.unusedVariables false
namespace Go.AX
open Go Go.Proofs

/-- Digits' worth, behind what was there. -/
def scan : List UInt8 → Nat → Option Nat
  | [], a => some a
  | b :: l, a => if 48 ≤ b.toNat ∧ b.toNat ≤ 57 then scan l (10 * a + (b.toNat - 48)) else none
def valOf (l : List UInt8) : Option Nat := if l = [] ∨ 9 < l.length ∨ (1 < l.length ∧ l.head? = some 48) then none else scan l 0

noncomputable def loop16 : Code := match Tryz.f16.body with
  | some (.seq _ (.seq _ (.seq _ (.seq (.seq _ (.block _ l)) _)))) => l
  | _ => .skip

theorem bl_size (s : ByteArray) : (bl s).length = s.size := rfl
theorem bl_get (s : ByteArray) (i : Nat) (h : i < s.size) : (bl s)[i]? = some s[i] := by
  unfold bl
  rw [List.getElem?_eq_getElem (by simpa using h)]
  rfl

theorem loop16_run (S : Caller) (h0 : Heap) (r : Nat) (hr0 : ∀ o, h0.get r = some o → o = .dead) (s : ByteArray) (hs : s.size ≤ 9) : ∀ (d pos a : Nat) (tm : Tm) (h : Heap), s.size = pos + d → a < 10 ^ pos → Keeps h0 h → h.get r = some (.iter s pos) → tm.length = 42 →
    getT tm 25 = .pointer (some ⟨r, 0, none⟩) → getT tm 4 = .int .i64 (a : Int) →
    W Tryz.prog S loop16 ⟨tm, h⟩ fun e t => Keeps h0 t.h ∧ t.tm.length = 42 ∧ ((e = .ret ∧ scan ((bl s).drop pos) a = none ∧ getT t.tm 2 = .int .i64 0 ∧ getT t.tm 3 = .bool false) ∨ (e = .exit 0 ∧ ∃ m : Nat, scan ((bl s).drop pos) a = some m ∧ getT t.tm 4 = .int .i64 m)) := by
  intro d
  induction d with
  | zero =>
    intro pos a tm h hp ha hk hit hl h25 h4
    have hdrop : (bl s).drop pos = [] := List.drop_eq_nil_of_le (by rw [bl_size]; omega)
    refine W.loop (W.seq (W.region (by kernel_rfl) ?_))
    refine RW.effect (v := .tuple #[.bool false]) (h1 := h) rfl rfl rfl (fun k => by
      have : ¬ pos < (bl s).length := by rw [bl_size]; omega
      simp [AX.effect, nextV, hl, h25, ev_tmp, put_some, get_set, len_set, ev, closed, closed0, hit, this]) ?_
    refine RW.quiet (v := .bool false) rfl rfl (by simp [AX.quiet, hl, ev_tmp, put_some, get_set, len_set, ev, closed, closed0]) (.nil ?_)
    refine W.seq (W.cond (t := false) (by simp [hl, ev_tmp, put_some, get_set, len_set, ev, closed, closed0]) (W.exit ⟨hk, by simp [hl, ev_tmp, put_some, get_set, len_set, ev, closed, closed0], .inr ⟨rfl, a, by rw [hdrop]; rfl, by simp [hl, h4, ev_tmp, put_some, get_set, len_set, ev, closed, closed0]⟩⟩))
  | succ d ih =>
    intro pos a tm h hp ha hk hit hl h25 h4
    have hlt : pos < s.size := by omega
    have hlt' : pos < (bl s).length := by rw [bl_size]; omega
    have hpow : (10 : Nat) ^ pos ≤ 10 ^ 8 := Nat.pow_le_pow_right (by decide) (by omega)
    have hdrop : (bl s).drop pos = s[pos] :: (bl s).drop (pos + 1) := by
      rw [List.drop_eq_getElem_cons hlt']
      rfl
    refine W.loop (W.seq (W.region (by kernel_rfl) ?_))
    refine RW.effect (v := .tuple #[.bool true, goInt pos, .int .i32 (Utf8.decode s pos).1]) (h1 := h.put r (.iter s (pos + (Utf8.decode s pos).2))) rfl rfl rfl (fun k => by
      simp [AX.effect, nextV, hl, h25, ev_tmp, put_some, get_set, len_set, ev, closed, closed0, hit, hlt']) ?_
    refine RW.quiet (v := .bool true) rfl rfl (by simp [AX.quiet, hl, ev_tmp, put_some, get_set, len_set, ev, closed, closed0]) (.nil ?_)
    refine W.seq (W.cond (t := true) (by simp [hl, ev_tmp, put_some, get_set, len_set, ev, closed, closed0]) (W.skip ?_))
    refine W.block (W.seq (W.region (by kernel_rfl) ?_))
    refine RW.quiet (v := .int .i32 (Utf8.decode s pos).1) rfl rfl (by simp [AX.quiet, hl, ev_tmp, put_some, get_set, len_set, ev, closed, closed0]) ?_
    refine RW.quiet rfl rfl rfl (.nil ?_)
    have hru : (Utf8.decode s pos).1 ≤ 2147483647 := by
      by_cases h128 : (s[pos]).toNat < 128
      · rw [decode_ascii s pos hlt h128]; simp only; omega
      · exact decode_le s pos
    have hbad : ¬ (48 ≤ (s[pos]).toNat ∧ (s[pos]).toNat ≤ 57) ↔ ((Utf8.decode s pos).1 < 48 ∨ (Utf8.decode s pos).1 > 57) := by
      by_cases h128 : (s[pos]).toNat < 128
      · rw [decode_ascii s pos hlt h128]; simp only; omega
      · have := (decode_high s pos hlt (by omega)).1
        omega
    have hgood : 48 ≤ (s[pos]).toNat ∧ (s[pos]).toNat ≤ 57 → Utf8.decode s pos = ((s[pos]).toNat, 1) := fun h => decode_ascii s pos hlt (by omega)
    generalize hde : Utf8.decode s pos = dc at hru hbad hgood
    obtain ⟨ru, wd⟩ := dc
    simp only at hru hbad
    refine W.seq (W.seq (W.region (by kernel_rfl) ?_))
    refine RW.quiet rfl rfl rfl ?_
    refine RW.quiet (v := .bool (decide (ru < 48))) rfl rfl (by simp [AX.quiet, binV, hl, ev_tmp, put_some, get_set, len_set, ev, closed, closed0]; omega) ?_
    refine RW.quiet rfl rfl rfl ?_
    have hput : Keeps h0 (h.put r (.iter s (pos + wd))) := hk.put hr0 _
    have hbadrun : ∀ tm' : Tm, tm'.length = 42 → 48 ≤ (s[pos]).toNat ∧ (s[pos]).toNat ≤ 57 → True := fun _ _ _ => trivial
    have hscan : ¬ (48 ≤ (s[pos]).toNat ∧ (s[pos]).toNat ≤ 57) → scan ((bl s).drop pos) a = none := fun h => by
      rw [hdrop, scan, if_neg h]
    by_cases c1 : ru < 48
    · refine RW.skip (by simp [wantedT, guardVal, hl, ev_tmp, put_some, get_set, len_set, ev, closed, closed0, c1]) ?_
      refine RW.skip (by simp [wantedT, guardVal, hl, ev_tmp, put_some, get_set, len_set, ev, closed, closed0, c1]) ?_
      refine RW.quiet (v := .bool true) rfl rfl (by simp [AX.quiet, hl, ev_tmp, put_some, get_set, len_set, ev, closed, closed0, c1]) (.nil ?_)
      refine W.cond (t := true) (by simp [hl, ev_tmp, put_some, get_set, len_set, ev, closed, closed0]) (W.seq (W.region (by kernel_rfl) (.quiet rfl rfl rfl (.quiet rfl rfl rfl (.nil ?_)))))
      exact W.ret ⟨hput, by simp [hl, ev_tmp, put_some, get_set, len_set, ev, closed, closed0], .inl ⟨rfl, hscan (hbad.2 (.inl c1)), by simp [hl, ev_tmp, put_some, get_set, len_set, ev, closed, closed0], by simp [hl, ev_tmp, put_some, get_set, len_set, ev, closed, closed0]⟩⟩
    · refine RW.quiet (by simp [wantedT, guardVal, hl, ev_tmp, put_some, get_set, len_set, ev, closed, closed0, c1]) rfl rfl ?_
      refine RW.quiet (v := .bool (decide (ru > 57))) (by simp [wantedT, guardVal, hl, ev_tmp, put_some, get_set, len_set, ev, closed, closed0, c1]) rfl (by simp [AX.quiet, binV, hl, ev_tmp, put_some, get_set, len_set, ev, closed, closed0]; omega) ?_
      refine RW.quiet (v := .bool (decide (ru > 57))) rfl rfl (by simp [AX.quiet, hl, ev_tmp, put_some, get_set, len_set, ev, closed, closed0, c1]) (.nil ?_)
      by_cases c2 : ru > 57
      · refine W.cond (t := true) (by simp [hl, ev_tmp, put_some, get_set, len_set, ev, closed, closed0, c2]) (W.seq (W.region (by kernel_rfl) (.quiet rfl rfl rfl (.quiet rfl rfl rfl (.nil ?_)))))
        exact W.ret ⟨hput, by simp [hl, ev_tmp, put_some, get_set, len_set, ev, closed, closed0], .inl ⟨rfl, hscan (hbad.2 (.inr c2)), by simp [hl, ev_tmp, put_some, get_set, len_set, ev, closed, closed0], by simp [hl, ev_tmp, put_some, get_set, len_set, ev, closed, closed0]⟩⟩
      · have hok : 48 ≤ (s[pos]).toNat ∧ (s[pos]).toNat ≤ 57 := Classical.byContradiction fun hn => by
          rcases hbad.1 hn with h | h
          · exact c1 h
          · exact c2 h
        have hg := hgood hok
        cases hg
        refine W.cond (t := false) (by simp [hl, ev_tmp, put_some, get_set, len_set, ev, closed, closed0]; omega) (W.skip ?_)
        refine W.region (by kernel_rfl) ?_
        refine RW.quiet rfl rfl rfl ?_
        refine RW.quiet (v := .int .i64 ((10 * a : Nat) : Int)) rfl rfl (by simp [AX.quiet, binV, hl, h4, ev_tmp, put_some, get_set, len_set, ev, closed, closed0]; exact IntWalk.i64_in _ (by omega)) ?_
        refine RW.quiet rfl rfl rfl ?_
        refine RW.quiet (v := .int .i32 (((s[pos]).toNat : Int) - 48)) rfl rfl (by
          have e : IntKind.i32.wrap (((s[pos]).toNat : Int) - 48) = ((s[pos]).toNat : Int) - 48 := by
            simp [IntKind.wrap, IntKind.bits, IntKind.signed]; omega
          simp [AX.quiet, binV, hl, ev_tmp, put_some, get_set, len_set, ev, closed, closed0, e]) ?_
        refine RW.quiet (v := .int .i64 (((s[pos]).toNat : Int) - 48)) rfl (by kernel_rfl) (by
          have e : IntKind.i64.wrap (((s[pos]).toNat : Int) - 48) = ((s[pos]).toNat : Int) - 48 := IntWalk.i64_in _ (by omega)
          have u21 : Tryz.prog.underlying 21 = some (.int .i32) := by kernel_rfl
          simp [AX.quiet, convV, u21, Tryz.underlying3, hl, ev_tmp, put_some, get_set, len_set, ev, closed, closed0, e]) ?_
        refine RW.quiet (v := .int .i64 ((10 * a + ((s[pos]).toNat - 48) : Nat) : Int)) rfl rfl (by
          have e : IntKind.i64.wrap (10 * (a : Int) + (((s[pos]).toNat : Int) - 48)) = 10 * (a : Int) + (((s[pos]).toNat : Int) - 48) := IntWalk.i64_in _ (by omega)
          simp [AX.quiet, binV, hl, ev_tmp, put_some, get_set, len_set, ev, closed, closed0, e]; omega) ?_
        refine RW.quiet rfl rfl rfl (.nil ?_)
        have hsc : scan ((bl s).drop pos) a = scan ((bl s).drop (pos + 1)) (10 * a + ((s[pos]).toNat - 48)) := by
          rw [hdrop, scan, if_pos hok]
        refine (ih (pos + 1) (10 * a + ((s[pos]).toNat - 48)) _ (h.put r (.iter s (pos + 1))) (by omega) (by rw [Nat.pow_succ]; omega) hput (by rw [Heap.get_put, if_pos rfl]) ?_ ?_ ?_).mono ?_
        · simp [hl, ev_tmp, put_some, get_set, len_set, ev, closed, closed0]
        · simp [hl, h25, ev_tmp, put_some, get_set, len_set, ev, closed, closed0]
        · simp [hl, ev_tmp, put_some, get_set, len_set, ev, closed, closed0]
        · rintro e t ⟨q1, q2, q3⟩
          rw [hsc]
          rcases q3 with ⟨rfl, q4, q5, q6⟩ | ⟨rfl, m, q4, q5⟩
          · exact ⟨q1, q2, .inl ⟨rfl, q4, q5, q6⟩⟩
          · exact ⟨q1, q2, .inr ⟨rfl, m, q4, q5⟩⟩

/-- path.value. -/
def g16 (args : List Value) (_ : Heap) : Option Value :=
  match args with
  | [.string s] => if s.size < 2 ^ 62 then some (.tuple #[.int .i64 ((valOf (bl s)).getD 0 : Nat), .bool (valOf (bl s)).isSome]) else none
  | _ => none
theorem f16_run (S : Caller) (h : Heap) (hf : Free h) (s : ByteArray) (hs : s.size < 2 ^ 62) : ∃ n v h', callBody Tryz.prog (exec Tryz.prog S n) 16 [.string s] h = some (v, h') ∧ v = .tuple #[.int .i64 ((valOf (bl s)).getD 0 : Nat), .bool (valOf (bl s)).isSome] ∧ Keeps h h' := by
  refine callBody_of Tryz.func16 rfl ?_
  have hn : ([Value.string s] ++ List.replicate (Tryz.f16.ntmps - 1) undef).length = 42 := rfl
  have h0 : getT ([Value.string s] ++ List.replicate (Tryz.f16.ntmps - 1) undef) 0 = .string s := rfl
  show W Tryz.prog S _ ⟨[Value.string s] ++ List.replicate (Tryz.f16.ntmps - 1) undef, h⟩ _
  generalize [Value.string s] ++ List.replicate (Tryz.f16.ntmps - 1) undef = tm at hn h0
  refine W.seq (W.region (by kernel_rfl) (.quiet rfl rfl rfl (.quiet rfl rfl rfl (.nil ?_))))
  refine W.seq (W.region (by kernel_rfl) (.quiet rfl rfl rfl (.nil ?_)))
  have u9 := Tryz.underlying9
  have hlen : lenV Tryz.prog 9 (.string s) = some (.int .i64 s.size) := by simp [lenV, u9, goInt, bl_size]
  refine W.seq (W.seq (W.region (by kernel_rfl) ?_))
  refine RW.quiet rfl rfl rfl ?_
  refine RW.quiet (v := .bool (decide (s.size = 0))) rfl rfl (by
    simp [AX.quiet, binV, hn, h0, ev_tmp, put_some, get_set, len_set, ev, closed, closed0]
    rw [Bool.eq_iff_iff]
    simp
    constructor
    · intro h; rw [← mk_bl s, h]; rfl
    · rintro rfl; rfl) ?_
  refine RW.quiet rfl rfl rfl ?_
  by_cases e0 : s.size = 0
  · have hv : valOf (bl s) = none := by
      have : bl s = [] := List.length_eq_zero_iff.1 e0
      simp [valOf, this]
    refine RW.skip (by simp [wantedT, guardVal, undef, hn, ev_tmp, put_some, get_set, len_set, ev, closed, closed0, e0]) ?_
    refine RW.skip (by simp [wantedT, guardVal, undef, hn, ev_tmp, put_some, get_set, len_set, ev, closed, closed0, e0]) ?_
    refine RW.skip (by simp [wantedT, guardVal, undef, hn, ev_tmp, put_some, get_set, len_set, ev, closed, closed0, e0]) ?_
    refine RW.quiet (v := .bool true) rfl rfl (by simp [AX.quiet, hn, ev_tmp, put_some, get_set, len_set, ev, closed, closed0, e0]) ?_
    refine RW.quiet rfl rfl rfl ?_
    iterate 8 refine RW.skip (by simp [wantedT, guardVal, undef, hn, ev_tmp, put_some, get_set, len_set, ev, closed, closed0, e0]) ?_
    refine RW.quiet (v := .bool true) rfl rfl (by simp [AX.quiet, hn, ev_tmp, put_some, get_set, len_set, ev, closed, closed0, e0]) (.nil ?_)
    refine W.cond (t := true) (by simp [hn, ev_tmp, put_some, get_set, len_set, ev, closed, closed0, e0]) (W.seq (W.region (by kernel_rfl) (.quiet rfl rfl rfl (.quiet rfl rfl rfl (.nil ?_)))))
    refine W.ret ⟨.inr rfl, _, rfl, ?_, Keeps.refl h⟩
    simp [hn, ev_tmp, put_some, get_set, len_set, ev, closed, closed0, hv]
  · refine RW.quiet (by simp [wantedT, guardVal, undef, hn, ev_tmp, put_some, get_set, len_set, ev, closed, closed0, e0]) rfl rfl ?_
    refine RW.quiet (v := .int .i64 s.size) (by simp [wantedT, guardVal, undef, hn, ev_tmp, put_some, get_set, len_set, ev, closed, closed0, e0]) rfl (by simp [AX.quiet, hn, h0, ev_tmp, put_some, get_set, len_set, ev, closed, closed0, hlen]) ?_
    refine RW.quiet (v := .bool (decide (9 < s.size))) (by simp [wantedT, guardVal, undef, hn, ev_tmp, put_some, get_set, len_set, ev, closed, closed0, e0]) rfl (by simp [AX.quiet, binV, hn, ev_tmp, put_some, get_set, len_set, ev, closed, closed0]; omega) ?_
    refine RW.quiet (v := .bool (decide (9 < s.size))) rfl rfl (by simp [AX.quiet, hn, ev_tmp, put_some, get_set, len_set, ev, closed, closed0, e0]) ?_
    refine RW.quiet rfl rfl rfl ?_
    by_cases e9 : 9 < s.size
    · have hv : valOf (bl s) = none := by simp [valOf, bl_size, e9]
      iterate 8 refine RW.skip (by simp [wantedT, guardVal, undef, hn, ev_tmp, put_some, get_set, len_set, ev, closed, closed0, e9]) ?_
      refine RW.quiet (v := .bool true) rfl rfl (by simp [AX.quiet, hn, ev_tmp, put_some, get_set, len_set, ev, closed, closed0, e9]) (.nil ?_)
      refine W.cond (t := true) (by simp [hn, ev_tmp, put_some, get_set, len_set, ev, closed, closed0, e0]) (W.seq (W.region (by kernel_rfl) (.quiet rfl rfl rfl (.quiet rfl rfl rfl (.nil ?_)))))
      refine W.ret ⟨.inr rfl, _, rfl, ?_, Keeps.refl h⟩
      simp [hn, ev_tmp, put_some, get_set, len_set, ev, closed, closed0, hv]
    · have hgo : ∀ tm' : Tm, tm'.length = 42 → getT tm' 0 = .string s → getT tm' 4 = .int .i64 0 → valOf (bl s) = scan (bl s) 0 → W Tryz.prog S (match Tryz.f16.body with | some (.seq _ (.seq _ (.seq _ c))) => c | _ => .skip) ⟨tm', h⟩
          fun e t => (e = .normal ∨ e = .ret) ∧ ∃ v, endOf Tryz.prog Tryz.f16 t = some (v, t.h) ∧ v = .tuple #[.int .i64 ((valOf (bl s)).getD 0 : Nat), .bool (valOf (bl s)).isSome] ∧ Keeps h t.h := by
        intro tm' hl g0 g4 hv
        refine W.seq (W.seq (W.region (by kernel_rfl) ?_))
        refine RW.quiet rfl rfl rfl ?_
        refine RW.effect (v := .pointer (some ⟨h.next, 0, none⟩)) (h1 := h.push (.iter s 0)) rfl rfl rfl (fun k => by simp [AX.effect, rangeV, u9, hl, g0, ev_tmp, put_some, get_set, len_set, ev, closed, closed0]) (.nil ?_)
        have hfree : ∀ o, h.get h.next = some o → o = .dead := fun o ho => hf _ _ (Nat.le_refl _) ho
        refine W.block ((loop16_run S h h.next hfree s (by omega) s.size 0 0 _ _ (by omega) (by decide) (Keeps.push hf _) (by rw [Heap.get_push, if_pos rfl]) (by simp [hl, ev_tmp, put_some, get_set, len_set, ev, closed, closed0]) (by simp [hl, ev_tmp, put_some, get_set, len_set, ev, closed, closed0]) (by simp [hl, g4, ev_tmp, put_some, get_set, len_set, ev, closed, closed0])).mono ?_)
        rintro e t ⟨q1, q2, ⟨rfl, q3, q4, q5⟩ | ⟨rfl, m, q3, q4⟩⟩
        · refine ⟨.inr rfl, _, rfl, ?_, q1⟩
          simp only [List.drop_zero] at q3
          simp [q4, q5, hv, q3]
        · simp only [List.drop_zero] at q3
          obtain ⟨tm3, h3⟩ := t
          refine W.seq (W.region (by kernel_rfl) (.quiet rfl rfl rfl (.quiet rfl rfl rfl (.quiet rfl rfl rfl (.nil ?_)))))
          refine W.ret ⟨.inr rfl, _, rfl, ?_, q1⟩
          simp only at q2 q4
          simp [q2, q4, hv, q3, ev_tmp, put_some, get_set, len_set, ev, closed, closed0]
      refine RW.quiet (by simp [wantedT, guardVal, undef, hn, ev_tmp, put_some, get_set, len_set, ev, closed, closed0, e9]) rfl rfl ?_
      refine RW.quiet (v := .int .i64 s.size) (by simp [wantedT, guardVal, undef, hn, ev_tmp, put_some, get_set, len_set, ev, closed, closed0, e9]) rfl (by simp [AX.quiet, hn, h0, ev_tmp, put_some, get_set, len_set, ev, closed, closed0, hlen]) ?_
      refine RW.quiet (v := .bool (decide (1 < s.size))) (by simp [wantedT, guardVal, undef, hn, ev_tmp, put_some, get_set, len_set, ev, closed, closed0, e9]) rfl (by simp [AX.quiet, binV, hn, ev_tmp, put_some, get_set, len_set, ev, closed, closed0]; omega) ?_
      refine RW.quiet (by simp [wantedT, guardVal, undef, hn, ev_tmp, put_some, get_set, len_set, ev, closed, closed0, e9]) rfl rfl ?_
      by_cases e1 : 1 < s.size
      · have hs0 : (bl s)[0]? = some s[0] := bl_get s 0 (by omega)
        refine RW.quiet (by simp [wantedT, guardVal, undef, hn, ev_tmp, put_some, get_set, len_set, ev, closed, closed0, e1]) rfl rfl ?_
        refine RW.quiet (v := .int .u8 (s[0]).toNat) (by simp [wantedT, guardVal, undef, hn, ev_tmp, put_some, get_set, len_set, ev, closed, closed0, e1]) rfl (by simp [AX.quiet, indexV, u9, hn, h0, ev_tmp, put_some, get_set, len_set, ev, closed, closed0, hs0]) ?_
        refine RW.quiet (v := .bool (s[0] == 48)) (by simp [wantedT, guardVal, undef, hn, ev_tmp, put_some, get_set, len_set, ev, closed, closed0, e1]) rfl (by
          simp [AX.quiet, binV, hn, ev_tmp, put_some, get_set, len_set, ev, closed, closed0]
          rw [Bool.eq_iff_iff]; simp
          constructor
          · intro h; exact UInt8.toNat_inj.1 (by simpa using (by omega : (s[0]).toNat = 48))
          · intro h; rw [h]; rfl) ?_
        refine RW.quiet (v := .bool (s[0] == 48)) (by simp [wantedT, guardVal, undef, hn, ev_tmp, put_some, get_set, len_set, ev, closed, closed0, e9]) rfl (by simp [AX.quiet, hn, ev_tmp, put_some, get_set, len_set, ev, closed, closed0, e1]) ?_
        refine RW.quiet (v := .bool (s[0] == 48)) rfl rfl (by simp [AX.quiet, hn, ev_tmp, put_some, get_set, len_set, ev, closed, closed0, e9]) (.nil ?_)
        have hhead : (bl s).head? = some s[0] := by rw [List.head?_eq_getElem?]; exact hs0
        by_cases e48 : s[0] = 48
        · have hv : valOf (bl s) = none := by
            unfold valOf
            rw [if_pos (.inr (.inr ⟨by rw [bl_size]; exact e1, by rw [hhead, e48]⟩))]
          refine W.cond (t := true) (by simp [hn, ev_tmp, put_some, get_set, len_set, ev, closed, closed0, e48]) (W.seq (W.region (by kernel_rfl) (.quiet rfl rfl rfl (.quiet rfl rfl rfl (.nil ?_)))))
          refine W.ret ⟨.inr rfl, _, rfl, ?_, Keeps.refl h⟩
          simp [hn, ev_tmp, put_some, get_set, len_set, ev, closed, closed0, hv]
        · have hv : valOf (bl s) = scan (bl s) 0 := by
            unfold valOf
            rw [if_neg]
            rintro (h | h | ⟨_, h⟩)
            · have := congrArg List.length h; rw [bl_size, List.length_nil] at this; omega
            · rw [bl_size] at h; omega
            · rw [hhead] at h; simp at h; exact e48 h
          refine W.cond (t := false) (by simp [hn, ev_tmp, put_some, get_set, len_set, ev, closed, closed0, e48]) (W.skip ?_)
          exact hgo _ (by simp [hn, ev_tmp, put_some, get_set, len_set, ev, closed, closed0]) (by simp [hn, h0, ev_tmp, put_some, get_set, len_set, ev, closed, closed0]) (by simp [hn, ev_tmp, put_some, get_set, len_set, ev, closed, closed0]) hv
      · refine RW.skip (by simp [wantedT, guardVal, undef, hn, ev_tmp, put_some, get_set, len_set, ev, closed, closed0, e1]) ?_
        refine RW.skip (by simp [wantedT, guardVal, undef, hn, ev_tmp, put_some, get_set, len_set, ev, closed, closed0, e1]) ?_
        refine RW.skip (by simp [wantedT, guardVal, undef, hn, ev_tmp, put_some, get_set, len_set, ev, closed, closed0, e1]) ?_
        refine RW.quiet (v := .bool false) (by simp [wantedT, guardVal, undef, hn, ev_tmp, put_some, get_set, len_set, ev, closed, closed0, e9]) rfl (by simp [AX.quiet, hn, ev_tmp, put_some, get_set, len_set, ev, closed, closed0, e1]) ?_
        refine RW.quiet (v := .bool false) rfl rfl (by simp [AX.quiet, hn, ev_tmp, put_some, get_set, len_set, ev, closed, closed0, e9]) (.nil ?_)
        have hv : valOf (bl s) = scan (bl s) 0 := by
          unfold valOf
          rw [if_neg]
          rintro (h | h | ⟨h, _⟩)
          · have := congrArg List.length h; rw [bl_size, List.length_nil] at this; omega
          · rw [bl_size] at h; omega
          · rw [bl_size] at h; omega
        refine W.cond (t := false) (by simp [hn, ev_tmp, put_some, get_set, len_set, ev, closed, closed0]) (W.skip ?_)
        exact hgo _ (by simp [hn, ev_tmp, put_some, get_set, len_set, ev, closed, closed0]) (by simp [hn, h0, ev_tmp, put_some, get_set, len_set, ev, closed, closed0]) (by simp [hn, ev_tmp, put_some, get_set, len_set, ev, closed, closed0]) hv
theorem ok16 {NG B : Nat} {J : Map → Heap → World → Prop} {S : Caller} (hm : Tryz.prog.follows .mixedOrders = true) (hx : XOK Tryz.prog) (hN : NOK Tryz.prog) (hG : NG = Tryz.prog.globals.size) (hC : JC J) (hS : KOK Tryz.prog NG B J S) : KOK Tryz.prog NG B J (pureS 16 g16) := by
  refine pure_ok hm hx hN hG hC hS fun args h v hf hg => ?_
  unfold g16 at hg
  split at hg
  · rename_i s
    split at hg
    · rename_i hs
      cases hg
      obtain ⟨k, v', h', h1, h2, h3⟩ := f16_run S h hf s hs
      refine ⟨?_, k, v', h', h1, h2, h3⟩
      exact .tuple [_, _] (fun v hv => by
        simp only [List.mem_cons, List.mem_nil_iff, or_false] at hv
        rcases hv with rfl | rfl
        · exact .int _ _
        · exact .bool _)
    · cases hg
  · cases hg
end Go.AX
