/- A part of the proof that rubriclaw22.PathPrint returns true for every path. -/
import Derived.Test.YtgaefkhmibhhoaaGreatDoorN6
import Derived.Test.YtgaefkhmibhhoaaGreatDoorAxRow
set_option linter.unusedSimpArgs false
set_option linter.unusedVariables false
namespace Go.AX
open Go Go.Proofs

/-- What stands between the slashes. -/
def pieces : List UInt8 → List (List UInt8)
  | [] => [[]]
  | c :: l => if c = 47 then [] :: pieces l else match pieces l with
    | p :: ps => (c :: p) :: ps
    | [] => [[c]]
def vals : List (List UInt8) → Option (List Nat)
  | [] => some []
  | p :: ps => match valOf p with
    | some n => (vals ps).map (n :: ·)
    | none => none
/-- Which path a text is. -/
def readOf (s : List UInt8) : List Int × Bool :=
  if s = [46] then ([], true) else match vals (pieces s) with
    | some l => (l.map fun n : Nat => (n : Int), true)
    | none => ([], false)

/-- path.Read, rubricref22.Read. -/
def gRead (args : List Value) : Option (List Int × Bool) :=
  match args with
  | [.string s] => if s.size ≤ 200 then some (readOf (bl s)) else none
  | _ => none

theorem Acc.weaken {e : TypeId} {h0 h1 h : Heap} {v : Value} {L : List Value} (ha : Acc e h1 h v L) (hk : Keeps h0 h1) (hf : Free h0) (hn : h0.next ≤ h1.next) : Acc e h0 h v L := by
  refine ⟨hk.trans ha.keeps, hf, ha.free, Nat.le_trans hn ha.next, ?_⟩
  rcases ha.row with h1 | ⟨x, fam, q1, q2, q3, q4, q5, q6, q7, q8⟩
  · exact .inl h1
  · exact .inr ⟨x, fam, q1, q2, q3, Nat.le_trans hn q4, fun y hy => ⟨Nat.le_trans hn (q5 y hy).1, (q5 y hy).2⟩, q6, Nat.le_trans hn q7, q8⟩
theorem Acc.none {e : TypeId} {h0 h : Heap} {v : Value} {L : List Value} (ha : Acc e h0 h v L) : Acc e h0 h (.slice none 0 0) [] := ⟨ha.keeps, ha.free0, ha.free, ha.next, .inl ⟨rfl, rfl⟩⟩
theorem Strs.keeps {h h' : Heap} (hk : Keeps h h') {v : Value} {A : List ByteArray} (ha : Strs h v A) : Strs h' v A := by
  rcases ha with h1 | ⟨x, o, c, h1, h2⟩
  · exact .inl h1
  · exact .inr ⟨x, o, c, h1, hk.read h2⟩
theorem agg9 : isAgg Tryz.prog 9 = some false := by kernel_rfl
theorem Strs.get {h : Heap} {v : Value} {A : List ByteArray} (hv : Strs h v A) {i : Nat} {n : ByteArray} (hi : A[i]? = some n) : ∃ p, indexAddrV Tryz.prog 31 v (.int .i64 (i : Int)) = some (.pointer (some p)) ∧ loadVar Tryz.prog h 9 p = some (.string n) := by
  have hlt : i < A.length := (List.getElem?_eq_some_iff.1 hi).1
  rcases hv with ⟨rfl, rfl⟩ | ⟨x, o, c, rfl, hr⟩
  · simp at hlt
  · obtain ⟨u, h1, h2⟩ := read_at hr hlt
    simp only [List.getElem?_map, hi, Option.map_some, Option.some.injEq] at h1
    subst h1
    refine ⟨⟨x, o + i, none⟩, ?_, ?_⟩
    · simp [indexAddrV, und31, size9]; omega
    · simp [loadVar, agg9, h2]
theorem info3 : ∃ i, Tryz.prog.info? 3 = some i ∧ i.size = 1 ∧ i.bytes = 8 := by
  have h : (Tryz.prog.info? 3).map (fun i => (i.size, i.bytes)) = some (1, 8) := by kernel_rfl
  simp only [Option.map_eq_some_iff, Prod.mk.injEq] at h
  obtain ⟨i, h1, h2, h3⟩ := h
  exact ⟨i, h1, h2, h3⟩
theorem zero3 : zeroOf Tryz.prog 3 = some (.int .i64 0) := by kernel_rfl
theorem build22 (n : Int) : buildSliceV Tryz.prog 22 1 [(0, .int .i64 n)] = some ⟨[.int .i64 n], 3, 1, some 1⟩ := by
  simp [buildSliceV, und22, size3, zero3, Value.cells, fillL, zeros, over]

theorem vals_take {ps : List (List UInt8)} {i : Nat} {p : List UInt8} (hp : ps[i]? = some p) {l : List Nat} (hl : vals (ps.take i) = some l) : vals (ps.take (i + 1)) = match valOf p with | some n => some (l ++ [n]) | none => none := by
  induction ps generalizing i l with
  | nil => simp at hp
  | cons q ps ih =>
    cases i with
    | zero =>
      simp only [List.take_zero, vals, Option.some.injEq] at hl
      subst hl
      simp only [List.getElem?_cons_zero, Option.some.injEq] at hp
      subst hp
      simp only [List.take_succ_cons, List.take_zero, vals, List.nil_append]
      cases valOf q <;> rfl
    | succ i =>
      simp only [List.getElem?_cons_succ] at hp
      simp only [List.take_succ_cons, vals] at hl ⊢
      cases hq : valOf q with
      | none => rw [hq] at hl; cases hl
      | some n =>
        rw [hq] at hl
        simp only [Option.map_eq_some_iff] at hl
        obtain ⟨l2, h2, rfl⟩ := hl
        have := ih hp h2
        simp only [this]
        cases valOf p <;> rfl
theorem vals_none {ps : List (List UInt8)} {i : Nat} (h : vals (ps.take i) = none) : vals ps = none := by
  induction ps generalizing i with
  | nil => simp [vals] at h
  | cons q ps ih =>
    cases i with
    | zero => simp [vals] at h
    | succ i =>
      simp only [List.take_succ_cons, vals] at h ⊢
      cases hq : valOf q with
      | none => rfl
      | some n =>
        rw [hq] at h
        simp only [Option.map_eq_none_iff] at h
        simp [ih h]

noncomputable def loop8 : Code := match Tryz.f8.body with
  | some (.seq _ (.seq _ (.seq _ (.seq (.seq _ (.block _ l)) _)))) => l
  | _ => .skip
theorem loop8_run (S : Caller) (h0 : Heap) (a : Value) (ps : List ByteArray) (ha : Strs h0 a ps) (hA : ps.length ≤ 300) (hb : ∀ p, p ∈ ps → p.size < 2 ^ 62)
    (hS : ∀ h (s : ByteArray), s.size < 2 ^ 62 → S 16 [.string s] h = some (.tuple #[.int .i64 ((valOf (bl s)).getD 0 : Nat), .bool (valOf (bl s)).isSome], h)) :
    ∀ (d i : Nat) (l : List Nat) (o : Value) (tm : Tm) (h : Heap), ps.length = i + d → vals ((ps.map bl).take i) = some l → Acc 3 h0 h o ((l.map fun n : Nat => (n : Int)).map (Value.int .i64)) → l.length = i → tm.length = 31 → getT tm 12 = a → getT tm 13 = .int .i64 (ps.length : Int) → getT tm 14 = .int .i64 (i : Int) → getT tm 4 = o →
    W Tryz.prog S loop8 ⟨tm, h⟩ fun e t => t.tm.length = 31 ∧ ((e = .ret ∧ vals (ps.map bl) = none ∧ Acc 3 h0 t.h (.slice none 0 0) [] ∧ getT t.tm 2 = .slice none 0 0 ∧ getT t.tm 3 = .bool false) ∨ (e = .exit 0 ∧ ∃ l, vals (ps.map bl) = some l ∧ Acc 3 h0 t.h (getT t.tm 4) ((l.map fun n : Nat => (n : Int)).map (Value.int .i64)))) := by
  intro d
  induction d with
  | zero =>
    intro i l o tm h hi hv hacc hli hl h12 h13 h14 h4
    have hk : (ps.map bl).take i = ps.map bl := List.take_of_length_le (by simp; omega)
    refine W.loop (W.seq (W.region (by kernel_rfl) ?_))
    refine RW.quiet (v := .bool false) rfl rfl (by simp [AX.quiet, binV, hl, h13, h14, ev_tmp, put_some, get_set, len_set, ev, closed, closed0]; omega) (.nil ?_)
    refine W.seq (W.cond (t := false) (by simp [hl, ev_tmp, put_some, get_set, len_set, ev, closed, closed0]) (W.exit ⟨by simp [hl, ev_tmp, put_some, get_set, len_set, ev, closed, closed0], .inr ⟨rfl, l, by rw [← hk]; exact hv, ?_⟩⟩))
    have : getT (putT tm (some 15) (.bool false)) 4 = o := by simp [hl, h4, ev_tmp, put_some, get_set, len_set, ev, closed, closed0]
    simp only [this]
    exact hacc
  | succ d ih =>
    intro i l o tm h hi hv hacc hli hl h12 h13 h14 h4
    have hia : i < ps.length := by omega
    have ea : ps[i]? = some ps[i] := by simp [hia]
    have hmem : ps[i] ∈ ps := List.getElem_mem hia
    obtain ⟨p, hp1, hp2⟩ := (ha.keeps hacc.keeps).get ea
    have hlt := hb _ hmem
    have hvt := vals_take (ps := ps.map bl) (i := i) (p := bl ps[i]) (by simp [ea]) hv
    generalize ps[i] = n at *
    refine W.loop (W.seq (W.region (by kernel_rfl) ?_))
    refine RW.quiet (v := .bool true) rfl rfl (by simp [AX.quiet, binV, hl, h13, h14, ev_tmp, put_some, get_set, len_set, ev, closed, closed0]; omega) (.nil ?_)
    refine W.seq (W.cond (t := true) (by simp [hl, ev_tmp, put_some, get_set, len_set, ev, closed, closed0]) (W.skip ?_))
    refine W.seq (W.block (W.seq (W.region (by kernel_rfl) ?_)))
    refine RW.quiet (v := .pointer (some p)) rfl rfl (by simp [AX.quiet, hl, h12, h14, ev_tmp, put_some, get_set, len_set, ev, closed, closed0, hp1]) ?_
    refine RW.quiet (v := .string n) rfl rfl (by simp [AX.quiet, hl, ev_tmp, put_some, get_set, len_set, ev, closed, closed0, hp2]) ?_
    refine RW.quiet rfl rfl rfl (.nil ?_)
    refine W.seq (W.region (by kernel_rfl) ?_)
    refine RW.quiet rfl rfl rfl ?_
    refine RW.call1 [.string n] rfl rfl rfl Tryz.func16 rfl (by simp [hl, ev_tmp, put_some, get_set, len_set, ev, closed, closed0]) (hS h n hlt) ?_
    refine RW.quiet rfl rfl rfl ?_
    refine RW.quiet (v := .int .i64 ((valOf (bl n)).getD 0 : Nat)) rfl rfl (by simp [AX.quiet, hl, ev_tmp, put_some, get_set, len_set, ev, closed, closed0]) ?_
    refine RW.quiet (v := .bool (valOf (bl n)).isSome) rfl rfl (by simp [AX.quiet, hl, ev_tmp, put_some, get_set, len_set, ev, closed, closed0]) ?_
    refine RW.quiet rfl rfl rfl (.quiet rfl rfl rfl (.nil ?_))
    refine W.seq (W.seq (W.region (by kernel_rfl) ?_))
    refine RW.quiet rfl rfl rfl ?_
    refine RW.quiet (v := .bool (!(valOf (bl n)).isSome)) rfl rfl (by simp [AX.quiet, unV, hl, ev_tmp, put_some, get_set, len_set, ev, closed, closed0]) (.nil ?_)
    cases hvo : valOf (bl n) with
    | none =>
      rw [hvo] at hvt
      refine W.cond (t := true) (by simp [hl, ev_tmp, put_some, get_set, len_set, ev, closed, closed0, hvo]) (W.seq (W.region (by kernel_rfl) (.quiet rfl rfl rfl (.quiet rfl rfl rfl (.nil ?_)))))
      exact W.ret ⟨by simp [hl, ev_tmp, put_some, get_set, len_set, ev, closed, closed0], .inl ⟨rfl, vals_none hvt, hacc.none, by simp [hl, ev_tmp, put_some, get_set, len_set, ev, closed, closed0], by simp [hl, ev_tmp, put_some, get_set, len_set, ev, closed, closed0]⟩⟩
    | some m =>
      rw [hvo] at hvt
      refine W.cond (t := false) (by simp [hl, ev_tmp, put_some, get_set, len_set, ev, closed, closed0, hvo]) (W.skip ?_)
      refine W.region (by kernel_rfl) ?_
      refine RW.quiet rfl rfl rfl ?_
      refine RW.quiet rfl rfl rfl ?_
      refine RW.fresh (n := ⟨[.int .i64 (m : Int)], 3, 1, some 1⟩) rfl rfl rfl (by simp [AX.fresh, hl, ev_tmp, put_some, get_set, len_set, ev, closed, closed0, build22, hvo]) ?_
      obtain ⟨ti, hi1, hi2, hi3⟩ := info3
      obtain ⟨o', h', happ, hacc'⟩ := Acc.append und22 hi1 hi2 (by omega) zero3 rfl (hacc.other [.int .i64 (m : Int)] 3 1) (by simp; omega) (q := h.next) (u := .int .i64 (m : Int)) (by rw [read_row]; rfl) rfl
      refine RW.effect (v := o') (h1 := h') rfl rfl rfl (fun k => by simpa [AX.effect, hl, h4, ev_tmp, put_some, get_set, len_set, ev, closed, closed0, New.at] using happ) ?_
      refine RW.quiet rfl rfl rfl (.nil ?_)
      refine W.region (by kernel_rfl) ?_
      refine RW.quiet (v := .int .i64 ((i + 1 : Nat) : Int)) rfl rfl (by simp [AX.quiet, binV, hl, h14, ev_tmp, put_some, get_set, len_set, ev, closed, closed0]; exact IntWalk.i64_in _ (by omega)) ?_
      refine RW.quiet rfl rfl rfl (.nil ?_)
      refine ih (i + 1) (l ++ [m]) o' _ h' (by omega) hvt ?_ ?_ ?_ ?_ ?_ ?_ ?_
      · simpa using hacc'
      · simp; omega
      all_goals simp [hl, h12, h13, ev_tmp, put_some, get_set, len_set, ev, closed, closed0]

theorem f8_run (S : Caller) (h : Heap) (hf : Free h) (s : ByteArray) (hs : s.size ≤ 200)
    (hS : ∀ h (s : ByteArray), s.size < 2 ^ 62 → S 16 [.string s] h = some (.tuple #[.int .i64 ((valOf (bl s)).getD 0 : Nat), .bool (valOf (bl s)).isSome], h))
    (hS15 : ∀ h (s : ByteArray), s.size ≤ 1000 → ∃ ps : List ByteArray, ps.map bl = pieces (bl s) ∧ ps ≠ [] ∧ ps.length ≤ s.size + 1 ∧ (∀ p, p ∈ ps → p.size ≤ s.size) ∧ S 15 [.string s, .string ⟨#[47]⟩] h = some (.slice (some ⟨h.next, 0, none⟩) ps.length ps.length, (h.row (ps.map Value.string) 9 1).2)) :
    ∃ n v' h', callBody Tryz.prog (exec Tryz.prog S n) 8 [.string s] h = some (v', h') ∧ ∃ o, v' = .tuple #[o, .bool (readOf (bl s)).2] ∧ Acc 3 h h' o ((readOf (bl s)).1.map (Value.int .i64)) := by
  refine callBody_of Tryz.func8 rfl ?_
  have hn : ([Value.string s] ++ List.replicate (Tryz.f8.ntmps - 1) undef).length = 31 := rfl
  have h0 : getT ([Value.string s] ++ List.replicate (Tryz.f8.ntmps - 1) undef) 0 = .string s := rfl
  show W Tryz.prog S _ ⟨[Value.string s] ++ List.replicate (Tryz.f8.ntmps - 1) undef, h⟩ _
  generalize [Value.string s] ++ List.replicate (Tryz.f8.ntmps - 1) undef = tm at hn h0
  refine W.seq (W.region (by kernel_rfl) (.quiet rfl rfl rfl (.quiet rfl rfl rfl (.nil ?_))))
  refine W.seq (W.region (by kernel_rfl) (.quiet rfl rfl rfl (.nil ?_)))
  refine W.seq (W.seq (W.region (by kernel_rfl) ?_))
  refine RW.quiet rfl rfl rfl ?_
  refine RW.quiet (v := .bool (decide (bl s = [46]))) rfl rfl (by simp [AX.quiet, binV, hn, h0, ev_tmp, put_some, get_set, len_set, ev, closed, closed0]; rw [Bool.eq_iff_iff]; simp [bl]; exact decide_eq_true_iff.symm) (.nil ?_)
  by_cases hd : bl s = [46]
  · refine W.cond (t := true) (by simp [hn, ev_tmp, put_some, get_set, len_set, ev, closed, closed0, hd]) (W.seq (W.region (by kernel_rfl) (.quiet rfl rfl rfl (.quiet rfl rfl rfl (.nil ?_)))))
    refine W.ret ⟨.inr rfl, _, rfl, .slice none 0 0, ?_, ?_⟩
    · simp [hn, ev_tmp, put_some, get_set, len_set, ev, closed, closed0, hd, readOf]
    · simpa [readOf, hd] using Acc.start (e := 3) hf
  · refine W.cond (t := false) (by simp [hn, ev_tmp, put_some, get_set, len_set, ev, closed, closed0, hd]) (W.skip ?_)
    obtain ⟨ps, hps, hne, hpl, hpz, hsp⟩ := hS15 h s (by omega)
    have hfr := hf.row (ps.map Value.string) 9 1
    have hstr : Strs (h.row (ps.map Value.string) 9 1).2 (.slice (some ⟨h.next, 0, none⟩) ps.length ps.length) ps := by
      refine .inr ⟨h.next, 0, ps.length, rfl, ?_⟩
      have := takeN_all (ps.map Value.string)
      simp only [List.length_map] at this
      rw [read_row, dropN_eq, List.drop_zero, this]
    refine W.seq (W.seq (W.region (by kernel_rfl) ?_))
    refine RW.quiet rfl rfl rfl ?_
    refine RW.call1 [.string s, .string ⟨#[47]⟩] rfl rfl rfl Tryz.func15 rfl (by simp [hn, h0, ev_tmp, put_some, get_set, len_set, ev, closed, closed0]) hsp ?_
    refine RW.quiet (v := .int .i64 ps.length) rfl rfl (by simp [AX.quiet, lenV, und31, goInt, hn, ev_tmp, put_some, get_set, len_set, ev, closed, closed0]) ?_
    refine RW.quiet rfl rfl rfl (.nil ?_)
    refine W.block ((loop8_run S _ _ ps hstr (by omega) (fun p hp => by have := hpz p hp; omega) hS ps.length 0 [] (.slice none 0 0) _ _ (by omega) rfl (by simpa using Acc.start hfr) rfl (by simp [hn, ev_tmp, put_some, get_set, len_set, ev, closed, closed0]) (by simp [hn, ev_tmp, put_some, get_set, len_set, ev, closed, closed0]) (by simp [hn, ev_tmp, put_some, get_set, len_set, ev, closed, closed0]) (by simp [hn, ev_tmp, put_some, get_set, len_set, ev, closed, closed0]) (by simp [hn, ev_tmp, put_some, get_set, len_set, ev, closed, closed0])).mono ?_)
    rintro e ⟨tm1, h1⟩ ⟨g1, ⟨rfl, g2, g3, g4, g5⟩ | ⟨rfl, l, g2, g3⟩⟩
    · simp only at g1 g3 g4 g5
      rw [hps] at g2
      refine ⟨.inr rfl, _, rfl, .slice none 0 0, ?_, ?_⟩
      · simp [g4, g5, readOf, hd, g2]
      · simpa [readOf, hd, g2] using g3.weaken (Keeps.row hf _ _ _) hf (by rw [next_row]; omega)
    · simp only at g1 g3
      rw [hps] at g2
      refine W.seq (W.region (by kernel_rfl) (.quiet rfl rfl rfl (.quiet rfl rfl rfl (.quiet rfl rfl rfl (.nil ?_)))))
      refine W.ret ⟨.inr rfl, _, rfl, getT tm1 4, ?_, ?_⟩
      · simp [g1, ev_tmp, put_some, get_set, len_set, ev, closed, closed0, readOf, hd, g2]
      · simpa [readOf, hd, g2] using g3.weaken (Keeps.row hf _ _ _) hf (by rw [next_row]; omega)
theorem ok8 {NG B : Nat} {J : Map → Heap → World → Prop} {S : Caller} (hm : Tryz.prog.follows .mixedOrders = true) (hx : XOK Tryz.prog) (hN : NOK Tryz.prog) (hG : NG = Tryz.prog.globals.size) (hC : JC J) (hS : KOK Tryz.prog NG B J S)
    (h16 : ∀ h (s : ByteArray), s.size < 2 ^ 62 → S 16 [.string s] h = some (.tuple #[.int .i64 ((valOf (bl s)).getD 0 : Nat), .bool (valOf (bl s)).isSome], h))
    (h15 : ∀ h (s : ByteArray), s.size ≤ 1000 → ∃ ps : List ByteArray, ps.map bl = pieces (bl s) ∧ ps ≠ [] ∧ ps.length ≤ s.size + 1 ∧ (∀ p, p ∈ ps → p.size ≤ s.size) ∧ S 15 [.string s, .string ⟨#[47]⟩] h = some (.slice (some ⟨h.next, 0, none⟩) ps.length ps.length, (h.row (ps.map Value.string) 9 1).2)) :
    KOK Tryz.prog NG B J (retS 8 gRead) := by
  refine ret_ok hm hx hN hG hC hS fun args h A b hf hg => ?_
  unfold gRead at hg
  split at hg
  · rename_i s
    split at hg
    · rename_i hs
      have hg := Option.some.inj hg
      obtain ⟨k, v', h', h1, o, h2, h3⟩ := f8_run S h hf s hs h16 h15
      rw [hg] at h2 h3
      exact ⟨k, v', h', h1, o, h2, h3⟩
    · cases hg
  · cases hg
end Go.AX
