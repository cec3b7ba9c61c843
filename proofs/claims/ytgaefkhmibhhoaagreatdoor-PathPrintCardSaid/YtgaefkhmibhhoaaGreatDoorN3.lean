/- A part of the proof that rubriclaw22.PathPrint returns true for every path. -/
import Derived.Test.YtgaefkhmibhhoaaGreatDoorP3
set_option linter.unusedSimpArgs false
set_option linter.unusedVariables false
namespace Go.AX
open Go Go.Proofs

/-- A call of which is known to the sign what it comes to. -/
def exactS (F : FuncId) (g : List Value → Heap → Option (Value × Heap)) : Caller := fun f args h => if f = F then g args h else none
theorem exact_ok {P : Program} {NG B : Nat} {J : Map → Heap → World → Prop} {F : FuncId} {g : List Value → Heap → Option (Value × Heap)} {S : Caller} (hm : P.follows .mixedOrders = true) (hx : XOK P) (hN : NOK P) (hG : NG = P.globals.size) (hC : JC J) (hS : KOK P NG B J S)
    (hg : ∀ args h r, g args h = some r → ∃ n, callBody P (exec P S n) F args h = some r) : KOK P NG B J (exactS F g) := by
  intro f args h v h' he ρ w cargs hh hJ hl
  unfold exactS at he
  split at he
  · rename_i hf
    subst hf
    obtain ⟨n, hb⟩ := hg args h _ he
    exact callBody_sound (exec_sound hm hx hN hG hC hS n) f args h _ h' hb ρ w cargs hh hJ hl
  · cases he
theorem exact_ne {F f : FuncId} (h : f ≠ F) (g : List Value → Heap → Option (Value × Heap)) (args : List Value) (hp : Heap) : exactS F g f args hp = none := by unfold exactS; rw [if_neg h]

/-- short: a slice that is not too long. -/
def g5 (args : List Value) (h : Heap) : Option (Value × Heap) :=
  match args with
  | [.slice none 0 0] => some (.slice none 0 0, h)
  | [.slice (some ⟨x, o, none⟩) n c] => if n ≤ c ∧ c < 2 ^ 63 ∧ (h.blk x).map (·.es) = some 1 then some (.slice (some ⟨x, o, none⟩) (min n 8) c, h) else none
  | _ => none
theorem f5_run (S : Caller) (args : List Value) (h : Heap) (r : Value × Heap) (hg : g5 args h = some r) : ∃ n, callBody Tryz.prog (exec Tryz.prog S n) 5 args h = some r := by
  have key : ∀ a, (∃ n c v, a = .slice v n c ∧ n < 2 ^ 63 ∧ (n ≤ 8 → r = (a, h)) ∧ (8 < n → ∃ b, sliceV Tryz.prog h 22 a none (some (.int .i64 8)) none = some b ∧ r = (b, h))) → ∃ n, callBody Tryz.prog (exec Tryz.prog S n) 5 [a] h = some r := by
    rintro a ⟨N, c, v, rfl, hN, hle, hgt⟩
    have : ∃ n v' h', callBody Tryz.prog (exec Tryz.prog S n) 5 [.slice v N c] h = some (v', h') ∧ (v', h') = r := by
      refine callBody_of (R := fun v' h' => (v', h') = r) Tryz.func5 rfl ?_
      have hn : ([Value.slice v N c] ++ List.replicate (Tryz.f5.ntmps - 1) undef).length = 9 := rfl
      have h0 : getT ([Value.slice v N c] ++ List.replicate (Tryz.f5.ntmps - 1) undef) 0 = .slice v N c := rfl
      show W Tryz.prog S _ ⟨[Value.slice v N c] ++ List.replicate (Tryz.f5.ntmps - 1) undef, h⟩ _
      generalize [Value.slice v N c] ++ List.replicate (Tryz.f5.ntmps - 1) undef = tm at hn h0
      refine W.seq (W.region (by kernel_rfl) (.quiet rfl rfl rfl (.nil ?_)))
      refine W.seq (W.seq (W.region (by kernel_rfl) ?_))
      refine RW.quiet rfl rfl rfl ?_
      refine RW.quiet (v := .int .i64 N) rfl rfl (by simp [AX.quiet, lenV, und22, goInt, hn, h0, ev_tmp, put_some, get_set, len_set, ev, closed, closed0]) ?_
      refine RW.quiet (v := .bool (decide (8 < N))) rfl rfl (by simp [AX.quiet, binV, hn, ev_tmp, put_some, get_set, len_set, ev, closed, closed0]; omega) (.nil ?_)
      by_cases h8 : 8 < N
      · obtain ⟨b, hb, hr⟩ := hgt h8
        refine W.cond (t := true) (by simp [hn, ev_tmp, put_some, get_set, len_set, ev, closed, closed0, h8]) (W.seq (W.region (by kernel_rfl) ?_))
        refine RW.quiet rfl rfl rfl ?_
        refine RW.quiet (v := b) rfl rfl (by simp [AX.quiet, hn, h0, ev_tmp, put_some, get_set, len_set, ev, closed, closed0, hb]) ?_
        refine RW.quiet rfl rfl rfl (.nil ?_)
        refine W.ret ⟨.inr rfl, _, rfl, ?_⟩
        simp [hn, ev_tmp, put_some, get_set, len_set, ev, closed, closed0, hr]
      · refine W.cond (t := false) (by simp [hn, ev_tmp, put_some, get_set, len_set, ev, closed, closed0]; omega) (W.skip ?_)
        refine W.seq (W.region (by kernel_rfl) (.quiet rfl rfl rfl (.quiet rfl rfl rfl (.nil ?_))))
        refine W.ret ⟨.inr rfl, _, rfl, ?_⟩
        simp [hn, h0, ev_tmp, put_some, get_set, len_set, ev, closed, closed0, hle (by omega)]
    obtain ⟨n, v', h', h1, h2⟩ := this
    exact ⟨n, h2 ▸ h1⟩
  unfold g5 at hg
  split at hg
  · cases hg
    exact key _ ⟨0, 0, none, rfl, by omega, fun _ => rfl, fun h => by omega⟩
  · rename_i x o n c
    split at hg
    · rename_i hc
      cases hg
      obtain ⟨h1, h2, h3⟩ := hc
      refine key _ ⟨n, c, some ⟨x, o, none⟩, rfl, by omega, fun h8 => by rw [Nat.min_eq_left h8], fun h8 => ⟨.slice (some ⟨x, o, none⟩) 8 c, ?_, by rw [Nat.min_eq_right (by omega)]⟩⟩
      cases hb : h.blk x with
      | none => rw [hb] at h3; cases h3
      | some b =>
        rw [hb] at h3
        simp only [Option.map_some, Option.some.injEq] at h3
        have h4 : (8 : Int) ≤ c := by omega
        simp [sliceV, und22, size3, boundOf, hb, h3, h4]
        omega
    · cases hg
  · cases hg
theorem ok5 {NG B : Nat} {J : Map → Heap → World → Prop} {S : Caller} (hm : Tryz.prog.follows .mixedOrders = true) (hx : XOK Tryz.prog) (hN : NOK Tryz.prog) (hG : NG = Tryz.prog.globals.size) (hC : JC J) (hS : KOK Tryz.prog NG B J S) : KOK Tryz.prog NG B J (exactS 5 g5) :=
  exact_ok hm hx hN hG hC hS fun args h r hg => f5_run S args h r hg

noncomputable def loop3 : Code := match Tryz.f3.body with
  | some (.seq _ (.seq _ (.seq _ (.seq _ (.seq _ (.seq (.seq _ (.block _ l)) _)))))) => l
  | _ => .skip
theorem loop3_run (S : Caller) (h : Heap) (a m : Value) (A : List Int) (ha : Ints h a A) (hA : A.length ≤ 8) (s : ByteArray) (okb : Bool) (h9 : S 9 [] h = some (.bool true, h)) (hneg : (∃ n, n ∈ A ∧ n < 0) → s = ⟨#[]⟩ ∧ okb = false) (hbig : (∃ n, n ∈ A ∧ 999999999 < n) → okb = false) :
    ∀ (d i : Nat) (tm : Tm), A.length = i + d → (∀ n, n ∈ A.take i → 0 ≤ n ∧ n ≤ 999999999) → tm.length = 55 → getT tm 0 = a → getT tm 3 = .string s → getT tm 4 = m → getT tm 5 = .bool okb → getT tm 21 = a → getT tm 22 = .int .i64 (A.length : Int) → getT tm 23 = .int .i64 (i : Int) →
    W Tryz.prog S loop3 ⟨tm, h⟩ fun e t => t.h = h ∧ t.tm.length = 55 ∧ ((e = .ret ∧ getT t.tm 2 = .bool true) ∨ (e = .exit 0 ∧ (∀ n, n ∈ A → 0 ≤ n ∧ n ≤ 999999999) ∧ getT t.tm 0 = a ∧ getT t.tm 4 = m ∧ getT t.tm 5 = .bool okb)) := by
  intro d
  induction d with
  | zero =>
    intro i tm hi hpre hl h0 h3 h4 h5 h21 h22 h23
    have hk : A.take i = A := List.take_of_length_le (by omega)
    rw [hk] at hpre
    refine W.loop (W.seq (W.region (by kernel_rfl) ?_))
    refine RW.quiet (v := .bool false) rfl rfl (by simp [AX.quiet, binV, hl, h22, h23, ev_tmp, put_some, get_set, len_set, ev, closed, closed0]; omega) (.nil ?_)
    refine W.seq (W.cond (t := false) (by simp [hl, ev_tmp, put_some, get_set, len_set, ev, closed, closed0]) (W.exit ⟨rfl, by simp [hl, ev_tmp, put_some, get_set, len_set, ev, closed, closed0], .inr ⟨rfl, hpre, ?_, ?_, ?_⟩⟩))
    all_goals simp [hl, h0, h4, h5, ev_tmp, put_some, get_set, len_set, ev, closed, closed0]
  | succ d ih =>
    intro i tm hi hpre hl h0 h3 h4 h5 h21 h22 h23
    have hia : i < A.length := by omega
    have ea : A[i]? = some A[i] := by simp [hia]
    have hmem : A[i] ∈ A := List.getElem_mem hia
    obtain ⟨p, hp1, hp2⟩ := ha.get ea
    generalize A[i] = n at *
    refine W.loop (W.seq (W.region (by kernel_rfl) ?_))
    refine RW.quiet (v := .bool true) rfl rfl (by simp [AX.quiet, binV, hl, h22, h23, ev_tmp, put_some, get_set, len_set, ev, closed, closed0]; omega) (.nil ?_)
    refine W.seq (W.cond (t := true) (by simp [hl, ev_tmp, put_some, get_set, len_set, ev, closed, closed0]) (W.skip ?_))
    refine W.seq (W.block (W.seq (W.region (by kernel_rfl) ?_)))
    refine RW.quiet (v := .pointer (some p)) rfl rfl (by simp [AX.quiet, hl, h21, h23, ev_tmp, put_some, get_set, len_set, ev, closed, closed0, hp1]) ?_
    refine RW.quiet (v := .int .i64 n) rfl rfl (by simp [AX.quiet, hl, ev_tmp, put_some, get_set, len_set, ev, closed, closed0, hp2]) ?_
    refine RW.quiet rfl rfl rfl (.nil ?_)
    refine W.seq (W.seq (W.region (by kernel_rfl) ?_))
    refine RW.quiet rfl rfl rfl ?_
    refine RW.quiet (v := .bool (decide (n < 0))) rfl rfl (by simp [AX.quiet, binV, hl, ev_tmp, put_some, get_set, len_set, ev, closed, closed0]) (.nil ?_)
    by_cases hn0 : n < 0
    · obtain ⟨rfl, rfl⟩ := hneg ⟨n, hmem, hn0⟩
      refine W.cond (t := true) (by simp [hl, ev_tmp, put_some, get_set, len_set, ev, closed, closed0, hn0]) (W.seq (W.region (by kernel_rfl) ?_))
      refine RW.quiet (v := .string ⟨#[]⟩) rfl rfl (by simp [AX.quiet, hl, h3, ev_tmp, put_some, get_set, len_set, ev, closed, closed0]) ?_
      refine RW.quiet (v := .bool true) rfl rfl (by simp [AX.quiet, binV, hl, ev_tmp, put_some, get_set, len_set, ev, closed, closed0, bl]) ?_
      refine RW.quiet (v := .bool true) rfl rfl (by simp [AX.quiet, hl, ev_tmp, put_some, get_set, len_set, ev, closed, closed0]) ?_
      refine RW.quiet (v := .bool false) (by simp [wantedT, guardVal, undef, hl, ev_tmp, put_some, get_set, len_set, ev, closed, closed0]) rfl (by simp [AX.quiet, hl, h5, ev_tmp, put_some, get_set, len_set, ev, closed, closed0]) ?_
      refine RW.quiet (v := .bool true) (by simp [wantedT, guardVal, undef, hl, ev_tmp, put_some, get_set, len_set, ev, closed, closed0]) rfl (by simp [AX.quiet, unV, hl, ev_tmp, put_some, get_set, len_set, ev, closed, closed0]) ?_
      refine RW.quiet (v := .bool true) rfl rfl (by simp [AX.quiet, hl, ev_tmp, put_some, get_set, len_set, ev, closed, closed0]) ?_
      refine RW.quiet (v := .bool true) rfl rfl (by simp [AX.quiet, hl, ev_tmp, put_some, get_set, len_set, ev, closed, closed0]) ?_
      refine RW.call1 [] (by simp [wantedT, guardVal, undef, hl, ev_tmp, put_some, get_set, len_set, ev, closed, closed0]) rfl rfl Tryz.func9 rfl (by simp) h9 ?_
      refine RW.quiet (v := .bool true) rfl rfl (by simp [AX.quiet, hl, ev_tmp, put_some, get_set, len_set, ev, closed, closed0]) ?_
      refine RW.quiet rfl rfl rfl (.nil ?_)
      refine W.ret ⟨rfl, by simp [hl, ev_tmp, put_some, get_set, len_set, ev, closed, closed0], .inl ⟨rfl, by simp [hl, ev_tmp, put_some, get_set, len_set, ev, closed, closed0]⟩⟩
    · refine W.cond (t := false) (by simp [hl, ev_tmp, put_some, get_set, len_set, ev, closed, closed0]; omega) (W.skip ?_)
      refine W.seq (W.region (by kernel_rfl) ?_)
      refine RW.quiet rfl rfl rfl ?_
      refine RW.quiet (v := .bool (decide (999999999 < n))) rfl rfl (by simp [AX.quiet, binV, hl, ev_tmp, put_some, get_set, len_set, ev, closed, closed0]) (.nil ?_)
      by_cases hn9 : 999999999 < n
      · have hok := hbig ⟨n, hmem, hn9⟩
        subst hok
        refine W.cond (t := true) (by simp [hl, ev_tmp, put_some, get_set, len_set, ev, closed, closed0, hn9]) (W.seq (W.region (by kernel_rfl) ?_))
        refine RW.quiet (v := .bool false) rfl rfl (by simp [AX.quiet, hl, h5, ev_tmp, put_some, get_set, len_set, ev, closed, closed0]) ?_
        refine RW.quiet (v := .bool true) rfl rfl (by simp [AX.quiet, unV, hl, ev_tmp, put_some, get_set, len_set, ev, closed, closed0]) ?_
        refine RW.quiet (v := .bool true) rfl rfl (by simp [AX.quiet, hl, ev_tmp, put_some, get_set, len_set, ev, closed, closed0]) ?_
        refine RW.call1 [] (by simp [wantedT, guardVal, undef, hl, ev_tmp, put_some, get_set, len_set, ev, closed, closed0]) rfl rfl Tryz.func9 rfl (by simp) h9 ?_
        refine RW.quiet (v := .bool true) rfl rfl (by simp [AX.quiet, hl, ev_tmp, put_some, get_set, len_set, ev, closed, closed0]) ?_
        refine RW.quiet rfl rfl rfl (.nil ?_)
        refine W.ret ⟨rfl, by simp [hl, ev_tmp, put_some, get_set, len_set, ev, closed, closed0], .inl ⟨rfl, by simp [hl, ev_tmp, put_some, get_set, len_set, ev, closed, closed0]⟩⟩
      · refine W.cond (t := false) (by simp [hl, ev_tmp, put_some, get_set, len_set, ev, closed, closed0]; omega) (W.skip ?_)
        refine W.region (by kernel_rfl) ?_
        refine RW.quiet (v := .int .i64 ((i + 1 : Nat) : Int)) rfl rfl (by simp [AX.quiet, binV, hl, h23, ev_tmp, put_some, get_set, len_set, ev, closed, closed0]; exact IntWalk.i64_in _ (by omega)) ?_
        refine RW.quiet rfl rfl rfl (.nil ?_)
        refine ih (i + 1) _ (by omega) (fun k hk => ?_) ?_ ?_ ?_ ?_ ?_ ?_ ?_ ?_
        · rw [List.take_add_one, ea] at hk
          simp only [Option.toList_some, List.mem_append, List.mem_singleton] at hk
          rcases hk with hk | rfl
          · exact hpre k hk
          · omega
        all_goals simp [hl, h0, h3, h4, h5, h21, h22, ev_tmp, put_some, get_set, len_set, ev, closed, closed0]

theorem f3_run (S : Caller) (h : Heap) (hf : Free h) (a0 a : Value) (A : List Int) (ha : Ints h a A) (hA : A.length ≤ 8) (hb : ∀ n, n ∈ A → n < 2 ^ 63) (h5 : S 5 [a0] h = some (a, h))
    (h6 : ∀ h v B, Ints h v B → B.length ≤ 8 → (∀ n, n ∈ B → n < 2 ^ 63) → S 6 [v] h = some (.string ⟨(printed B).toArray⟩, h)) (h7 : ∀ h v B, Ints h v B → B.length ≤ 8 → (∀ n, n ∈ B → n < 2 ^ 63) → S 7 [v] h = some (.string ⟨(printed B).toArray⟩, h))
    (h8 : ∀ h args, S 8 args h = retS 8 gRead 8 args h) (h10 : ∀ h args, S 10 args h = pureS 10 g10 10 args h) (h9 : ∀ h, S 9 [] h = some (.bool true, h)) :
    ∃ n v' h', callBody Tryz.prog (exec Tryz.prog S n) 3 [a0] h = some (v', h') ∧ v' = .bool true := by
  refine callBody_of (R := fun v _ => v = .bool true) Tryz.func3 rfl ?_
  have hl : ([a0] ++ List.replicate (Tryz.f3.ntmps - 1) undef).length = 55 := rfl
  have h0 : getT ([a0] ++ List.replicate (Tryz.f3.ntmps - 1) undef) 0 = a0 := rfl
  show W Tryz.prog S _ ⟨[a0] ++ List.replicate (Tryz.f3.ntmps - 1) undef, h⟩ _
  generalize [a0] ++ List.replicate (Tryz.f3.ntmps - 1) undef = tm at hl h0
  refine W.seq (W.region (by kernel_rfl) (.quiet rfl rfl rfl (.nil ?_)))
  refine W.seq (W.region (by kernel_rfl) ?_)
  refine RW.quiet rfl rfl rfl ?_
  refine RW.call1 [a0] rfl rfl rfl Tryz.func5 rfl (by simp [hl, h0, ev_tmp, put_some, get_set, len_set, ev, closed, closed0]) h5 ?_
  refine RW.quiet (v := a) rfl rfl (by simp [AX.quiet, hl, ev_tmp, put_some, get_set, len_set, ev, closed, closed0]) (.nil ?_)
  refine W.seq (W.region (by kernel_rfl) ?_)
  refine RW.quiet (v := a) rfl rfl (by simp [AX.quiet, hl, ev_tmp, put_some, get_set, len_set, ev, closed, closed0]) ?_
  refine RW.call1 [a] rfl rfl rfl Tryz.func6 rfl (by simp [hl, ev_tmp, put_some, get_set, len_set, ev, closed, closed0]) (h6 h a A ha hA hb) ?_
  refine RW.quiet (v := .string ⟨(printed A).toArray⟩) rfl rfl (by simp [AX.quiet, hl, ev_tmp, put_some, get_set, len_set, ev, closed, closed0]) (.nil ?_)
  refine W.seq (W.seq (W.region (by kernel_rfl) ?_))
  refine RW.quiet (v := .string ⟨(printed A).toArray⟩) rfl rfl (by simp [AX.quiet, hl, ev_tmp, put_some, get_set, len_set, ev, closed, closed0]) ?_
  refine RW.quiet (v := a) rfl rfl (by simp [AX.quiet, hl, ev_tmp, put_some, get_set, len_set, ev, closed, closed0]) ?_
  refine RW.call1 [a] rfl rfl rfl Tryz.func7 rfl (by simp [hl, ev_tmp, put_some, get_set, len_set, ev, closed, closed0]) (h7 h a A ha hA hb) ?_
  refine RW.quiet (v := .bool false) rfl rfl (by simp [AX.quiet, binV, hl, ev_tmp, put_some, get_set, len_set, ev, closed, closed0]) (.nil ?_)
  refine W.cond (t := false) (by simp [hl, ev_tmp, put_some, get_set, len_set, ev, closed, closed0]) (W.skip ?_)
  have hlen := printed_len hA hb
  have hblp : bl (⟨(printed A).toArray⟩ : ByteArray) = printed A := rfl
  have hg8 : gRead [.string ⟨(printed A).toArray⟩] = some ((readOf (printed A)).1, (readOf (printed A)).2) := by
    have : (⟨(printed A).toArray⟩ : ByteArray).size ≤ 200 := by show (printed A).toArray.size ≤ 200; simp; omega
    simp only [gRead]
    rw [if_pos this, hblp]
  have hneg : (∃ n, n ∈ A ∧ n < 0) → (⟨(printed A).toArray⟩ : ByteArray) = ⟨#[]⟩ ∧ (readOf (printed A)).2 = false := fun hx => ⟨by rw [printed_neg hx], read_printed_neg hx⟩
  have hbig := read_printed_big hb
  have hgood := fun hx => read_printed (A := A) hx
  generalize (⟨(printed A).toArray⟩ : ByteArray) = s at *
  generalize hbd : (readOf (printed A)).2 = b at *
  obtain ⟨v1, H1, e1, i1, k1, f1⟩ := retS_says (F := 8) hg8 h hf
  refine W.seq (W.region (by kernel_rfl) ?_)
  refine RW.quiet (v := .string s) rfl rfl (by simp [AX.quiet, hl, ev_tmp, put_some, get_set, len_set, ev, closed, closed0]) ?_
  refine RW.call1 [.string s] rfl rfl rfl Tryz.func8 rfl (by simp [hl, ev_tmp, put_some, get_set, len_set, ev, closed, closed0]) (by rw [h8]; exact e1) ?_
  refine RW.quiet rfl rfl rfl ?_
  refine RW.quiet (v := v1) rfl rfl (by simp [AX.quiet, hl, ev_tmp, put_some, get_set, len_set, ev, closed, closed0]) ?_
  refine RW.quiet (v := .bool b) rfl rfl (by simp [AX.quiet, hl, ev_tmp, put_some, get_set, len_set, ev, closed, closed0]) ?_
  refine RW.quiet rfl rfl rfl (.quiet rfl rfl rfl (.nil ?_))
  refine W.seq (W.seq (W.region (by kernel_rfl) ?_))
  refine RW.quiet (v := a) rfl rfl (by simp [AX.quiet, hl, ev_tmp, put_some, get_set, len_set, ev, closed, closed0]) ?_
  refine RW.quiet (v := .int .i64 A.length) rfl rfl (by simp [AX.quiet, hl, ev_tmp, put_some, get_set, len_set, ev, closed, closed0, ha.len]) ?_
  refine RW.quiet rfl rfl rfl (.nil ?_)
  have ha1 := ha.keeps k1
  refine W.block ((loop3_run S H1 a v1 A ha1 hA s b (h9 _) hneg hbig A.length 0 _ (by omega) (by simp) ?_ ?_ ?_ ?_ ?_ ?_ ?_ ?_).mono ?_)
  iterate 8 simp [hl, ev_tmp, put_some, get_set, len_set, ev, closed, closed0]
  rintro e ⟨tm1, h1⟩ ⟨rfl, hl1, ⟨rfl, g2⟩ | ⟨rfl, g2, g3, g4, g5⟩⟩
  · simp only at g2
    exact ⟨.inr rfl, _, rfl, g2⟩
  · simp only at hl1 g3 g4 g5
    have hr := hgood g2
    have hm1 : (readOf (printed A)).1 = A := by rw [hr]
    have hbt : b = true := by rw [← hbd, hr]
    subst hbt
    rw [hm1] at i1
    have h10' : S 10 [v1, a] h1 = some (.bool true, h1) := by
      rw [h10]
      have : A.length < 4611686018427387904 := by omega
      simp [pureS, g10, i1.of, ha1.of, this]
    refine W.seq (W.region (by kernel_rfl) ?_)
    refine RW.quiet (v := .bool true) rfl rfl (by simp [AX.quiet, hl1, g5, ev_tmp, put_some, get_set, len_set, ev, closed, closed0]) ?_
    refine RW.quiet (v := .bool true) rfl rfl (by simp [AX.quiet, hl1, ev_tmp, put_some, get_set, len_set, ev, closed, closed0]) ?_
    refine RW.quiet (v := v1) (by simp [wantedT, guardVal, undef, hl1, ev_tmp, put_some, get_set, len_set, ev, closed, closed0]) rfl (by simp [AX.quiet, hl1, g4, ev_tmp, put_some, get_set, len_set, ev, closed, closed0]) ?_
    refine RW.quiet (v := a) (by simp [wantedT, guardVal, undef, hl1, ev_tmp, put_some, get_set, len_set, ev, closed, closed0]) rfl (by simp [AX.quiet, hl1, g3, ev_tmp, put_some, get_set, len_set, ev, closed, closed0]) ?_
    refine RW.call1 [v1, a] (by simp [wantedT, guardVal, undef, hl1, ev_tmp, put_some, get_set, len_set, ev, closed, closed0]) rfl rfl Tryz.func10 rfl (by simp [hl1, ev_tmp, put_some, get_set, len_set, ev, closed, closed0]) h10' ?_
    refine RW.quiet (v := .bool true) rfl rfl (by simp [AX.quiet, hl1, ev_tmp, put_some, get_set, len_set, ev, closed, closed0]) ?_
    refine RW.quiet (v := .bool true) rfl rfl (by simp [AX.quiet, hl1, ev_tmp, put_some, get_set, len_set, ev, closed, closed0]) ?_
    refine RW.call1 [] (by simp [wantedT, guardVal, undef, hl1, ev_tmp, put_some, get_set, len_set, ev, closed, closed0]) rfl rfl Tryz.func9 rfl (by simp) (h9 _) ?_
    refine RW.quiet (v := .bool true) rfl rfl (by simp [AX.quiet, hl1, ev_tmp, put_some, get_set, len_set, ev, closed, closed0]) ?_
    refine RW.quiet rfl rfl rfl (.nil ?_)
    refine W.ret ⟨.inr rfl, _, rfl, ?_⟩
    simp [hl1, ev_tmp, put_some, get_set, len_set, ev, closed, closed0]
end Go.AX
