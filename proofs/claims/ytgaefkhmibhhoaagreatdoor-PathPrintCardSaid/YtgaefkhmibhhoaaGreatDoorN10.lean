/- A part of the proof that rubriclaw22.PathPrint returns true for every path. -/
import Derived.Test.YtgaefkhmibhhoaaGreatDoorN14
set_option linter.unusedSimpArgs false
set_option linter.unusedVariables false
namespace Go.AX
open Go Go.Proofs

def toInts : List Value → Option (List Int)
  | [] => some []
  | .int .i64 n :: l => (toInts l).map (n :: ·)
  | _ => none
theorem toInts_eq : ∀ (l : List Value) (A : List Int), toInts l = some A → l = A.map (Value.int .i64) := by
  intro l
  induction l with
  | nil => intro A h; simp only [toInts, Option.some.injEq] at h; subst h; rfl
  | cons v l ih =>
    intro A h
    unfold toInts at h
    split at h
    · rename_i h1; cases h1
    · rename_i n l' h1
      cases h1
      simp only [Option.map_eq_some_iff] at h
      obtain ⟨B, hB, rfl⟩ := h
      rw [ih B hB]; rfl
    · cases h
theorem toInts_map (A : List Int) : toInts (A.map (Value.int .i64)) = some A := by
  induction A with
  | nil => rfl
  | cons a A ih => simp [toInts, ih]
def intsOf (h : Heap) (v : Value) : Option (List Int) :=
  match v with
  | .slice none 0 0 => some []
  | .slice (some ⟨x, o, none⟩) n _ => (h.read x o n).bind toInts
  | _ => none
theorem takeN_len {n : Nat} {l r : List Value} (h : takeN n l = some r) : r.length = n := by
  obtain ⟨rfl, h2⟩ := takeN_eq _ _ _ h
  simp; omega
theorem read_len {h : Heap} {x o n : Nat} {l : List Value} (hr : h.read x o n = some l) : l.length = n := by
  unfold Heap.read at hr
  split at hr
  · exact takeN_len hr
  · cases hr
theorem intsOf_ints {h : Heap} {v : Value} {A : List Int} (hv : intsOf h v = some A) : Ints h v A := by
  unfold intsOf at hv
  split at hv
  · cases hv; exact .inl ⟨rfl, rfl⟩
  · rename_i x o n c
    simp only [Option.bind_eq_some_iff] at hv
    obtain ⟨l, h1, h2⟩ := hv
    have e := toInts_eq l A h2
    have hl := read_len h1
    subst e
    simp at hl
    subst hl
    exact .inr ⟨x, o, c, rfl, h1⟩
  · cases hv
theorem Ints.of {h : Heap} {v : Value} {A : List Int} (hv : Ints h v A) : intsOf h v = some A := by
  rcases hv with ⟨rfl, rfl⟩ | ⟨x, o, c, rfl, hr⟩
  · rfl
  · simp only [intsOf, hr, Option.bind_some, toInts_map]
theorem Ints.len {h : Heap} {v : Value} {A : List Int} (hv : Ints h v A) : lenV Tryz.prog 22 v = some (.int .i64 A.length) := by
  have hu : Tryz.prog.underlying 22 = some (.slice 3) := by kernel_rfl
  rcases hv with ⟨rfl, rfl⟩ | ⟨x, o, c, rfl, hr⟩ <;> simp [lenV, hu, goInt]
theorem size3 : sizeOf Tryz.prog 3 = some 1 := by kernel_rfl
theorem agg3 : isAgg Tryz.prog 3 = some false := by kernel_rfl
theorem und22 : Tryz.prog.underlying 22 = some (.slice 3) := by kernel_rfl
/-- One of them is read. -/
theorem Ints.get {h : Heap} {v : Value} {A : List Int} (hv : Ints h v A) {i : Nat} {n : Int} (hi : A[i]? = some n) : ∃ p, indexAddrV Tryz.prog 22 v (.int .i64 (i : Int)) = some (.pointer (some p)) ∧ loadVar Tryz.prog h 3 p = some (.int .i64 n) := by
  have hlt : i < A.length := (List.getElem?_eq_some_iff.1 hi).1
  rcases hv with ⟨rfl, rfl⟩ | ⟨x, o, c, rfl, hr⟩
  · simp at hlt
  · obtain ⟨u, h1, h2⟩ := read_at hr hlt
    simp only [List.getElem?_map, hi, Option.map_some, Option.some.injEq] at h1
    subst h1
    refine ⟨⟨x, o + i, none⟩, ?_, ?_⟩
    · simp [indexAddrV, und22, size3]; omega
    · simp [loadVar, agg3, h2]

noncomputable def loop10 : Code := match Tryz.f10.body with
  | some (.seq _ (.seq _ (.seq (.seq _ (.block _ l)) _))) => l
  | _ => .skip


theorem loop10_run (S : Caller) (h : Heap) (a b : Value) (A B : List Int) (ha : Ints h a A) (hb : Ints h b B) (hAB : A.length = B.length) (hA : A.length < 2 ^ 62) : ∀ (d i : Nat) (tm : Tm) (k : Nat), A.length = i + d → (∀ j, j < i → A[j]? = B[j]?) → tm.length = 26 →
    getT tm 0 = a → getT tm 1 = b → getT tm 12 = .int .i64 (A.length : Int) → getT tm 13 = .int .i64 (i : Int) →
    W Tryz.prog S loop10 ⟨tm, bump h k⟩ fun e t => (∃ tm' k', t = ⟨tm', bump h k'⟩ ∧ tm'.length = 26 ∧ ((e = .ret ∧ A ≠ B ∧ getT tm' 4 = .bool false) ∨ (e = .exit 0 ∧ A = B))) := by
  intro d
  induction d with
  | zero =>
    intro i tm k hi hpre hl h0 h1 h12 h13
    refine W.loop (W.seq (W.region (by kernel_rfl) ?_))
    refine RW.quiet (v := .bool false) rfl rfl (by simp [AX.quiet, binV, hl, h12, h13, ev_tmp, put_some, get_set, len_set, ev, closed, closed0]; omega) (.nil ?_)
    refine W.seq (W.cond (t := false) (by simp [hl, ev_tmp, put_some, get_set, len_set, ev, closed, closed0]) (W.exit ⟨_, k, rfl, by simp [hl, ev_tmp, put_some, get_set, len_set, ev, closed, closed0], .inr ⟨rfl, ?_⟩⟩))
    apply List.ext_getElem?
    intro j
    by_cases hj : j < i
    · exact hpre j hj
    · rw [List.getElem?_eq_none (by omega), List.getElem?_eq_none (by omega)]
  | succ d ih =>
    intro i tm k hi hpre hl h0 h1 h12 h13
    have hia : i < A.length := by omega
    have hib : i < B.length := by omega
    have ea : A[i]? = some A[i] := by simp [hia]
    have eb : B[i]? = some B[i] := by simp [hib]
    have ha' : Ints (bump h k) a A := ha
    have hb' : Ints (bump h k) b B := hb
    obtain ⟨p, hp1, hp2⟩ := ha'.get ea
    obtain ⟨q, hq1, hq2⟩ := hb'.get eb
    refine W.loop (W.seq (W.region (by kernel_rfl) ?_))
    refine RW.quiet (v := .bool true) rfl rfl (by simp [AX.quiet, binV, hl, h12, h13, ev_tmp, put_some, get_set, len_set, ev, closed, closed0]; omega) (.nil ?_)
    refine W.seq (W.cond (t := true) (by simp [hl, ev_tmp, put_some, get_set, len_set, ev, closed, closed0]) (W.skip ?_))
    refine W.seq (W.block (W.seq (W.region (by kernel_rfl) (.quiet rfl rfl rfl (.quiet rfl rfl rfl (.nil ?_))))))
    refine W.seq (W.drawnQ (by kernel_rfl) (by kernel_rfl) (by kernel_rfl) ?_)
    refine RW.quiet rfl rfl rfl ?_
    refine RW.quiet rfl rfl rfl ?_
    refine RW.quiet (v := .pointer (some p)) rfl rfl (by simp [AX.quiet, hl, h0, h13, ev_tmp, put_some, get_set, len_set, ev, closed, closed0, hp1]) ?_
    refine RW.quiet (v := .int .i64 A[i]) rfl rfl (by simp [AX.quiet, hl, ev_tmp, put_some, get_set, len_set, ev, closed, closed0, hp2]) ?_
    refine RW.quiet rfl rfl rfl ?_
    refine RW.quiet rfl rfl rfl ?_
    refine RW.quiet (v := .pointer (some q)) rfl rfl (by simp [AX.quiet, hl, h1, h13, ev_tmp, put_some, get_set, len_set, ev, closed, closed0, hq1]) ?_
    refine RW.quiet (v := .int .i64 B[i]) rfl rfl (by simp [AX.quiet, hl, ev_tmp, put_some, get_set, len_set, ev, closed, closed0, hq2]) ?_
    refine RW.quiet (v := .bool (A[i] != B[i])) rfl rfl (by simp [AX.quiet, binV, hl, ev_tmp, put_some, get_set, len_set, ev, closed, closed0]) (.nil ?_)
    by_cases hne : A[i] = B[i]
    · refine W.cond (t := false) (by simp [hl, ev_tmp, put_some, get_set, len_set, ev, closed, closed0, hne]) (W.skip ?_)
      refine W.region (by kernel_rfl) ?_
      refine RW.quiet (v := .int .i64 ((i + 1 : Nat) : Int)) rfl rfl (by simp [AX.quiet, binV, hl, h13, ev_tmp, put_some, get_set, len_set, ev, closed, closed0]; exact IntWalk.i64_in _ (by omega)) ?_
      refine RW.quiet rfl rfl rfl (.nil ?_)
      refine ih (i + 1) _ (k + 9) (by omega) (fun j hj => ?_) ?_ ?_ ?_ ?_ ?_
      · by_cases e : j = i
        · subst e; rw [ea, eb, hne]
        · exact hpre j (by omega)
      all_goals simp [hl, h0, h1, h12, ev_tmp, put_some, get_set, len_set, ev, closed, closed0]
    · refine W.cond (t := true) (by simp [hl, ev_tmp, put_some, get_set, len_set, ev, closed, closed0, hne]) (W.seq (W.region (by kernel_rfl) (.quiet rfl rfl rfl (.nil ?_))))
      refine W.ret ⟨_, k + 9, rfl, by simp [hl, ev_tmp, put_some, get_set, len_set, ev, closed, closed0], .inl ⟨rfl, ?_, by simp [hl, ev_tmp, put_some, get_set, len_set, ev, closed, closed0]⟩⟩
      rintro rfl
      exact hne rfl

/-- rubricref22.Same. -/
def g10 (args : List Value) (h : Heap) : Option Value :=
  match args with
  | [a, b] =>
    match intsOf h a, intsOf h b with
    | some A, some B => if A.length < 2 ^ 62 ∧ B.length < 2 ^ 62 then some (.bool (decide (A = B))) else none
    | _, _ => none
  | _ => none
theorem f10_run (S : Caller) (h : Heap) (a b : Value) (A B : List Int) (ha : Ints h a A) (hb : Ints h b B) (hA : A.length < 2 ^ 62) (hB : B.length < 2 ^ 62) :
    ∃ n v h', callBody Tryz.prog (exec Tryz.prog S n) 10 [a, b] h = some (v, h') ∧ v = .bool (decide (A = B)) ∧ Keeps h h' := by
  refine callBody_of Tryz.func10 rfl ?_
  have hn : ([a, b] ++ List.replicate (Tryz.f10.ntmps - 2) undef).length = 26 := rfl
  have h0 : getT ([a, b] ++ List.replicate (Tryz.f10.ntmps - 2) undef) 0 = a := rfl
  have h1 : getT ([a, b] ++ List.replicate (Tryz.f10.ntmps - 2) undef) 1 = b := rfl
  show W Tryz.prog S _ ⟨[a, b] ++ List.replicate (Tryz.f10.ntmps - 2) undef, h⟩ _
  generalize [a, b] ++ List.replicate (Tryz.f10.ntmps - 2) undef = tm at hn h0 h1
  refine W.seq (W.region (by kernel_rfl) (.quiet rfl rfl rfl (.nil ?_)))
  refine W.seq (W.seq (W.region (by kernel_rfl) ?_))
  refine RW.quiet rfl rfl rfl ?_
  refine RW.quiet (v := .int .i64 A.length) rfl rfl (by simp [AX.quiet, hn, h0, ev_tmp, put_some, get_set, len_set, ev, closed, closed0, ha.len]) ?_
  refine RW.quiet rfl rfl rfl ?_
  refine RW.quiet (v := .int .i64 B.length) rfl rfl (by simp [AX.quiet, hn, h1, ev_tmp, put_some, get_set, len_set, ev, closed, closed0, hb.len]) ?_
  refine RW.quiet (v := .bool (decide (A.length ≠ B.length))) rfl rfl (by simp [AX.quiet, binV, hn, ev_tmp, put_some, get_set, len_set, ev, closed, closed0]; rw [Bool.eq_iff_iff]; simp; omega) (.nil ?_)
  by_cases hl : A.length = B.length
  · refine W.cond (t := false) (by simp [hn, ev_tmp, put_some, get_set, len_set, ev, closed, closed0, hl]) (W.skip ?_)
    refine W.seq (W.seq (W.region (by kernel_rfl) ?_))
    refine RW.quiet rfl rfl rfl ?_
    refine RW.quiet (v := .int .i64 A.length) rfl rfl (by simp [AX.quiet, hn, h0, ev_tmp, put_some, get_set, len_set, ev, closed, closed0, ha.len]) ?_
    refine RW.quiet rfl rfl rfl (.nil ?_)
    refine W.block ((loop10_run S h a b A B ha hb hl hA A.length 0 _ 0 (by omega) (fun j hj => by omega) (by simp [hn, ev_tmp, put_some, get_set, len_set, ev, closed, closed0]) (by simp [hn, h0, ev_tmp, put_some, get_set, len_set, ev, closed, closed0]) (by simp [hn, h1, ev_tmp, put_some, get_set, len_set, ev, closed, closed0]) (by simp [hn, ev_tmp, put_some, get_set, len_set, ev, closed, closed0]) (by simp [hn, ev_tmp, put_some, get_set, len_set, ev, closed, closed0])).mono ?_)
    rintro e t ⟨tm', k', rfl, g1, ⟨rfl, g2, g3⟩ | ⟨rfl, g2⟩⟩
    · refine ⟨.inr rfl, _, rfl, ?_, ?_⟩
      · simp [g3, g2]
      · exact (Keeps.refl h).bump k'
    · refine W.seq (W.region (by kernel_rfl) (.quiet rfl rfl rfl (.nil ?_)))
      refine W.ret ⟨.inr rfl, _, rfl, ?_, ?_⟩
      · simp [ev_tmp, put_some, get_set, len_set, ev, closed, closed0, g1, g2]
      · exact (Keeps.refl h).bump k'
  · refine W.cond (t := true) (by simp [hn, ev_tmp, put_some, get_set, len_set, ev, closed, closed0, hl]) (W.seq (W.region (by kernel_rfl) (.quiet rfl rfl rfl (.nil ?_))))
    refine W.ret ⟨.inr rfl, _, rfl, ?_, Keeps.refl h⟩
    have : A ≠ B := fun e => hl (by rw [e])
    simp [ev_tmp, put_some, get_set, len_set, ev, closed, closed0, hn, this]
theorem ok10 {NG B : Nat} {J : Map → Heap → World → Prop} {S : Caller} (hm : Tryz.prog.follows .mixedOrders = true) (hx : XOK Tryz.prog) (hN : NOK Tryz.prog) (hG : NG = Tryz.prog.globals.size) (hC : JC J) (hS : KOK Tryz.prog NG B J S) : KOK Tryz.prog NG B J (pureS 10 g10) := by
  refine pure_ok hm hx hN hG hC hS fun args h v hf hg => ?_
  unfold g10 at hg
  split at hg
  · rename_i a b
    split at hg
    · rename_i A B' hA hB
      split at hg
      · rename_i hl
        cases hg
        obtain ⟨k, v', h', h1, h2, h3⟩ := f10_run S h a b A B' (intsOf_ints hA) (intsOf_ints hB) hl.1 hl.2
        exact ⟨.bool _, k, v', h', h1, h2, h3⟩
      · cases hg
    · cases hg
  · cases hg
end Go.AX
