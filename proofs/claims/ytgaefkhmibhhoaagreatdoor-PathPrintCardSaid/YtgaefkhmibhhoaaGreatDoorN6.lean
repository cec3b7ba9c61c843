/- A part of the proof that rubriclaw22.PathPrint returns true for every path. -/
import Derived.Test.YtgaefkhmibhhoaaGreatDoorN7
import Derived.Test.YtgaefkhmibhhoaaGreatDoorAxAcc
set_option linter.unusedSimpArgs false
set_option linter.unusedVariables false
namespace Go.AX
open Go Go.Proofs

def Strs (h : Heap) (v : Value) (xs : List ByteArray) : Prop :=
  (v = .slice none 0 0 ∧ xs = []) ∨ ∃ x o c, v = .slice (some ⟨x, o, none⟩) xs.length c ∧ h.read x o xs.length = some (xs.map Value.string)
theorem takeN_all : ∀ l : List Value, takeN l.length l = some l := by
  intro l
  induction l with
  | nil => rfl
  | cons a l ih => simp [takeN, ih]
theorem Acc.strs {h0 h : Heap} {v : Value} {xs : List ByteArray} (ha : Acc 9 h0 h v (xs.map Value.string)) : Strs h v xs := by
  rcases ha.row with ⟨rfl, h2⟩ | ⟨x, fam, rfl, _, hb, _⟩
  · exact .inl ⟨rfl, by simpa using h2⟩
  · refine .inr ⟨x, 0, xs.length, by simp, ?_⟩
    have := takeN_all (xs.map Value.string)
    simp only [List.length_map] at this
    simp only [Heap.read, hb, dropN_eq, List.drop_zero, this]
theorem und31 : Tryz.prog.underlying 31 = some (.slice 9) := by kernel_rfl
theorem size9 : sizeOf Tryz.prog 9 = some 1 := by kernel_rfl
theorem zero9 : zeroOf Tryz.prog 9 = some (.string ByteArray.empty) := by kernel_rfl
theorem info9 : ∃ i, Tryz.prog.info? 9 = some i ∧ i.size = 1 ∧ i.bytes = 16 := by
  have h : (Tryz.prog.info? 9).map (fun i => (i.size, i.bytes)) = some (1, 16) := by kernel_rfl
  simp only [Option.map_eq_some_iff, Prod.mk.injEq] at h
  obtain ⟨i, h1, h2, h3⟩ := h
  exact ⟨i, h1, h2, h3⟩
theorem build31 (s : ByteArray) : buildSliceV Tryz.prog 31 1 [(0, .string s)] = some ⟨[.string s], 9, 1, some 1⟩ := by
  simp [buildSliceV, und31, size9, zero9, Value.cells, fillL, zeros, over]

noncomputable def loop6 : Code := match Tryz.f6.body with
  | some (.seq _ (.seq _ (.seq _ (.seq (.seq _ (.block _ l)) _)))) => l
  | _ => .skip

theorem loop6_run (S : Caller) (h0 : Heap) (a : Value) (A : List Int) (ha : Ints h0 a A) (hA : A.length ≤ 8) (hb : ∀ n, n ∈ A → n < 2 ^ 63) (hS : ∀ h (m : Nat), m < 2 ^ 63 → S 12 [.int .i64 (m : Int)] h = some (.string ⟨(dec m).toArray⟩, h)) :
    ∀ (d i : Nat) (o : Value) (tm : Tm) (h : Heap), A.length = i + d → (∀ n, n ∈ A.take i → 0 ≤ n) → Acc 9 h0 h o (((A.take i).map fun n => (⟨(dec n.toNat).toArray⟩ : ByteArray)).map Value.string) → tm.length = 25 → getT tm 9 = a → getT tm 10 = .int .i64 (A.length : Int) → getT tm 11 = .int .i64 (i : Int) → getT tm 3 = o →
    W Tryz.prog S loop6 ⟨tm, h⟩ fun e t => t.tm.length = 25 ∧ ((e = .ret ∧ Keeps h0 t.h ∧ (∃ n, n ∈ A ∧ n < 0) ∧ getT t.tm 2 = .string ⟨#[]⟩) ∨ (e = .exit 0 ∧ (∀ n, n ∈ A → 0 ≤ n) ∧ Acc 9 h0 t.h (getT t.tm 3) ((A.map fun n => (⟨(dec n.toNat).toArray⟩ : ByteArray)).map Value.string))) := by
  intro d
  induction d with
  | zero =>
    intro i o tm h hi hpre hacc hl h9 h10 h11 h3
    have hk : A.take i = A := List.take_of_length_le (by omega)
    refine W.loop (W.seq (W.region (by kernel_rfl) ?_))
    refine RW.quiet (v := .bool false) rfl rfl (by simp [AX.quiet, binV, hl, h10, h11, ev_tmp, put_some, get_set, len_set, ev, closed, closed0]; omega) (.nil ?_)
    refine W.seq (W.cond (t := false) (by simp [hl, ev_tmp, put_some, get_set, len_set, ev, closed, closed0]) (W.exit ⟨by simp [hl, ev_tmp, put_some, get_set, len_set, ev, closed, closed0], .inr ⟨rfl, by rw [← hk]; exact hpre, ?_⟩⟩))
    have : getT (putT tm (some 12) (.bool false)) 3 = o := by simp [hl, h3, ev_tmp, put_some, get_set, len_set, ev, closed, closed0]
    rw [hk] at hacc
    simp only [this]
    exact hacc
  | succ d ih =>
    intro i o tm h hi hpre hacc hl h9 h10 h11 h3
    have hia : i < A.length := by omega
    have ea : A[i]? = some A[i] := by simp [hia]
    have hmem : A[i] ∈ A := List.getElem_mem hia
    obtain ⟨p, hp1, hp2⟩ := (ha.keeps hacc.keeps).get ea
    have htake : A.take (i + 1) = A.take i ++ [A[i]] := by rw [List.take_add_one, ea]; rfl
    have hlt := hb _ hmem
    generalize A[i] = n at *
    refine W.loop (W.seq (W.region (by kernel_rfl) ?_))
    refine RW.quiet (v := .bool true) rfl rfl (by simp [AX.quiet, binV, hl, h10, h11, ev_tmp, put_some, get_set, len_set, ev, closed, closed0]; omega) (.nil ?_)
    refine W.seq (W.cond (t := true) (by simp [hl, ev_tmp, put_some, get_set, len_set, ev, closed, closed0]) (W.skip ?_))
    refine W.seq (W.block (W.seq (W.region (by kernel_rfl) ?_)))
    refine RW.quiet (v := .pointer (some p)) rfl rfl (by simp [AX.quiet, hl, h9, h11, ev_tmp, put_some, get_set, len_set, ev, closed, closed0, hp1]) ?_
    refine RW.quiet (v := .int .i64 n) rfl rfl (by simp [AX.quiet, hl, ev_tmp, put_some, get_set, len_set, ev, closed, closed0, hp2]) ?_
    refine RW.quiet rfl rfl rfl (.nil ?_)
    refine W.seq (W.seq (W.region (by kernel_rfl) ?_))
    refine RW.quiet rfl rfl rfl ?_
    refine RW.quiet (v := .bool (decide (n < 0))) rfl rfl (by simp [AX.quiet, binV, hl, ev_tmp, put_some, get_set, len_set, ev, closed, closed0]) (.nil ?_)
    by_cases hneg : n < 0
    · refine W.cond (t := true) (by simp [hl, ev_tmp, put_some, get_set, len_set, ev, closed, closed0, hneg]) (W.seq (W.region (by kernel_rfl) (.quiet rfl rfl rfl (.nil ?_))))
      exact W.ret ⟨by simp [hl, ev_tmp, put_some, get_set, len_set, ev, closed, closed0], .inl ⟨rfl, hacc.keeps, ⟨n, hmem, hneg⟩, by simp [hl, ev_tmp, put_some, get_set, len_set, ev, closed, closed0]⟩⟩
    · refine W.cond (t := false) (by simp [hl, ev_tmp, put_some, get_set, len_set, ev, closed, closed0]; omega) (W.skip ?_)
      obtain ⟨m, rfl⟩ : ∃ m : Nat, n = m := ⟨n.toNat, by omega⟩
      refine W.region (by kernel_rfl) ?_
      refine RW.quiet rfl rfl rfl ?_
      refine RW.quiet rfl rfl rfl ?_
      refine RW.call1 [.int .i64 (m : Int)] rfl rfl rfl Tryz.func12 rfl (by simp [hl, ev_tmp, put_some, get_set, len_set, ev, closed, closed0]) (hS h m (by omega)) ?_
      refine RW.fresh (n := ⟨[.string ⟨(dec m).toArray⟩], 9, 1, some 1⟩) rfl rfl rfl (by simp [AX.fresh, hl, ev_tmp, put_some, get_set, len_set, ev, closed, closed0, build31]) ?_
      obtain ⟨ti, hi1, hi2, hi3⟩ := info9
      have hlen8 : (((A.take i).map fun n => (⟨(dec n.toNat).toArray⟩ : ByteArray)).map Value.string).length ≤ 1000 := by simp; omega
      obtain ⟨o', h', happ, hacc'⟩ := Acc.append und31 hi1 hi2 (by omega) zero9 rfl (hacc.other [.string ⟨(dec m).toArray⟩] 9 1) hlen8 (q := h.next) (u := .string ⟨(dec m).toArray⟩) (by rw [read_row]; rfl) rfl
      refine RW.effect (v := o') (h1 := h') rfl rfl rfl (fun k => by simpa [AX.effect, hl, h3, ev_tmp, put_some, get_set, len_set, ev, closed, closed0, New.at] using happ) ?_
      refine RW.quiet rfl rfl rfl (.nil ?_)
      refine W.region (by kernel_rfl) ?_
      refine RW.quiet (v := .int .i64 ((i + 1 : Nat) : Int)) rfl rfl (by simp [AX.quiet, binV, hl, h11, ev_tmp, put_some, get_set, len_set, ev, closed, closed0]; exact IntWalk.i64_in _ (by omega)) ?_
      refine RW.quiet rfl rfl rfl (.nil ?_)
      refine ih (i + 1) o' _ h' (by omega) ?_ ?_ ?_ ?_ ?_ ?_ ?_
      · rw [htake]
        intro k hk
        simp only [List.mem_append, List.mem_singleton] at hk
        rcases hk with hk | rfl
        · exact hpre k hk
        · omega
      · rw [htake]; simpa using hacc'
      all_goals simp [hl, h9, h10, ev_tmp, put_some, get_set, len_set, ev, closed, closed0]

theorem f6_run (S : Caller) (h : Heap) (hf : Free h) (a : Value) (A : List Int) (ha : Ints h a A) (hA : A.length ≤ 8) (hb : ∀ n, n ∈ A → n < 2 ^ 63) (hS : ∀ h (m : Nat), m < 2 ^ 63 → S 12 [.int .i64 (m : Int)] h = some (.string ⟨(dec m).toArray⟩, h))
    (hS13 : ∀ h v (xs : List ByteArray), Strs h v xs → xs.length ≤ 8 → (∀ x, x ∈ xs → x.size ≤ 20) → xs ≠ [] → S 13 [v, .string ⟨#[47]⟩] h = some (.string ⟨(Lib.join (xs.map fun x => x.data.toList) [47]).toArray⟩, h)) :
    ∃ n v h', callBody Tryz.prog (exec Tryz.prog S n) 6 [a] h = some (v, h') ∧ v = .string ⟨(printed A).toArray⟩ ∧ Keeps h h' := by
  refine callBody_of Tryz.func6 rfl ?_
  have hn : ([a] ++ List.replicate (Tryz.f6.ntmps - 1) undef).length = 25 := rfl
  have h0 : getT ([a] ++ List.replicate (Tryz.f6.ntmps - 1) undef) 0 = a := rfl
  show W Tryz.prog S _ ⟨[a] ++ List.replicate (Tryz.f6.ntmps - 1) undef, h⟩ _
  generalize [a] ++ List.replicate (Tryz.f6.ntmps - 1) undef = tm at hn h0
  refine W.seq (W.region (by kernel_rfl) (.quiet rfl rfl rfl (.nil ?_)))
  refine W.seq (W.seq (W.region (by kernel_rfl) ?_))
  refine RW.quiet rfl rfl rfl ?_
  refine RW.quiet (v := .int .i64 A.length) rfl rfl (by simp [AX.quiet, hn, h0, ev_tmp, put_some, get_set, len_set, ev, closed, closed0, ha.len]) ?_
  refine RW.quiet (v := .bool (decide (A = []))) rfl rfl (by simp [AX.quiet, binV, hn, ev_tmp, put_some, get_set, len_set, ev, closed, closed0]; rw [Bool.eq_iff_iff]; simp) (.nil ?_)
  by_cases hA0 : A = []
  · refine W.cond (t := true) (by simp [hn, ev_tmp, put_some, get_set, len_set, ev, closed, closed0, hA0]) (W.seq (W.region (by kernel_rfl) (.quiet rfl rfl rfl (.nil ?_))))
    refine W.ret ⟨.inr rfl, _, rfl, ?_, Keeps.refl _⟩
    simp [hn, ev_tmp, put_some, get_set, len_set, ev, closed, closed0, hA0, printed]
  · refine W.cond (t := false) (by simp [hn, ev_tmp, put_some, get_set, len_set, ev, closed, closed0, hA0]) (W.skip ?_)
    refine W.seq (W.region (by kernel_rfl) (.quiet rfl rfl rfl (.nil ?_)))
    refine W.seq (W.seq (W.region (by kernel_rfl) ?_))
    refine RW.quiet rfl rfl rfl ?_
    refine RW.quiet (v := .int .i64 A.length) rfl rfl (by simp [AX.quiet, hn, h0, ev_tmp, put_some, get_set, len_set, ev, closed, closed0, ha.len]) ?_
    refine RW.quiet rfl rfl rfl (.nil ?_)
    refine W.block ((loop6_run S h a A ha hA hb hS A.length 0 (.slice none 0 0) _ h (by omega) (by simp) (by simpa using Acc.start hf) (by simp [hn, ev_tmp, put_some, get_set, len_set, ev, closed, closed0]) (by simp [hn, h0, ev_tmp, put_some, get_set, len_set, ev, closed, closed0]) (by simp [hn, ev_tmp, put_some, get_set, len_set, ev, closed, closed0]) (by simp [hn, ev_tmp, put_some, get_set, len_set, ev, closed, closed0]) (by simp [hn, ev_tmp, put_some, get_set, len_set, ev, closed, closed0])).mono ?_)
    rintro e ⟨tm1, h1⟩ ⟨g1, ⟨rfl, g0, g2, g3⟩ | ⟨rfl, g2, g3⟩⟩
    · simp only at g0 g3
      refine ⟨.inr rfl, _, rfl, ?_, g0⟩
      simp only [g3, printed_neg g2]
    · simp only at g1 g3
      have hst := g3.strs
      refine W.seq (W.region (by kernel_rfl) ?_)
      refine RW.quiet rfl rfl rfl ?_
      refine RW.call1 [getT tm1 3, .string ⟨#[47]⟩] rfl rfl rfl Tryz.func13 rfl (by simp [g1, ev_tmp, put_some, get_set, len_set, ev, closed, closed0]) (hS13 h1 _ _ hst (by simpa using hA) (fun x hx => ?_) (by simpa using hA0)) ?_
      · simp only [List.mem_map] at hx
        obtain ⟨n, hn1, rfl⟩ := hx
        have h1 := hb n hn1
        have h2 := g2 n hn1
        have := dec_len 18 n.toNat (by omega)
        show ((dec n.toNat).toArray).size ≤ 20
        simp; omega
      · refine RW.quiet rfl rfl rfl (.nil ?_)
        refine W.ret ⟨.inr rfl, _, rfl, ?_, g3.keeps⟩
        simp [g1, ev_tmp, put_some, get_set, len_set, ev, closed, closed0, printed_pos hA0 g2, pathText, Function.comp_def]

/-- path.Print. -/
theorem ok6 {NG B : Nat} {J : Map → Heap → World → Prop} {S : Caller} (hm : Tryz.prog.follows .mixedOrders = true) (hx : XOK Tryz.prog) (hN : NOK Tryz.prog) (hG : NG = Tryz.prog.globals.size) (hC : JC J) (hS : KOK Tryz.prog NG B J S)
    (h12 : ∀ h (m : Nat), m < 2 ^ 63 → S 12 [.int .i64 (m : Int)] h = some (.string ⟨(dec m).toArray⟩, h))
    (h13 : ∀ h v (xs : List ByteArray), Strs h v xs → xs.length ≤ 8 → (∀ x, x ∈ xs → x.size ≤ 20) → xs ≠ [] → S 13 [v, .string ⟨#[47]⟩] h = some (.string ⟨(Lib.join (xs.map fun x => x.data.toList) [47]).toArray⟩, h)) : KOK Tryz.prog NG B J (pureS 6 gPrint) := by
  refine pure_ok hm hx hN hG hC hS fun args h v hf hg => ?_
  unfold gPrint at hg
  split at hg
  · rename_i a
    split at hg
    · rename_i A hA
      split at hg
      · rename_i hl
        cases hg
        obtain ⟨k, v', h', h1, h2, h3⟩ := f6_run S h hf a A (intsOf_ints hA) hl.1 (fun n hn => by simpa using List.all_eq_true.1 hl.2 n hn) h12 h13
        exact ⟨.string _, k, v', h', h1, h2, h3⟩
      · cases hg
    · cases hg
  · cases hg
end Go.AX
