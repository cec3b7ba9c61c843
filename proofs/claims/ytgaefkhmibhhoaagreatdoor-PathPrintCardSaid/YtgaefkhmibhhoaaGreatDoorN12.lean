/- A part of the proof that rubriclaw22.PathPrint returns true for every path. -/
import Derived.Test.YtgaefkhmibhhoaaGreatDoorAxSimp
import Derived.Test.YtgaefkhmibhhoaaGreatDoorChecked
import Derived.IntWalk
set_option linter.unusedSimpArgs false
set_option linter.unusedVariables false
namespace Go.AX
open Go Go.Proofs

/-- A number's digits. -/
def dec (n : Nat) : List UInt8 := if n < 10 then [UInt8.ofNat (48 + n)] else dec (n / 10) ++ [UInt8.ofNat (48 + n % 10)]
theorem dec_lt {n : Nat} (h : n < 10) : dec n = [UInt8.ofNat (48 + n)] := by rw [dec, if_pos h]
theorem dec_ge {n : Nat} (h : ¬ n < 10) : dec n = dec (n / 10) ++ [UInt8.ofNat (48 + n % 10)] := by rw [dec, if_neg h]
theorem dec_pos (n : Nat) : 1 ≤ (dec n).length := by
  by_cases h : n < 10
  · rw [dec_lt h]; simp
  · rw [dec_ge h]; simp
theorem dec_len : ∀ (k n : Nat), n < 10 ^ (k + 1) → (dec n).length ≤ k + 1 := by
  intro k
  induction k with
  | zero => intro n h; rw [dec_lt (by omega)]; simp
  | succ k ih =>
    intro n h
    by_cases hn : n < 10
    · rw [dec_lt hn]; simp
    · rw [dec_ge hn]
      have := ih (n / 10) (by rw [Nat.pow_succ] at h; omega)
      simp; omega
theorem digit (r : Nat) (h : r < 10) : (([48, 49, 50, 51, 52, 53, 54, 55, 56, 57] : List UInt8).drop r).take 1 = [UInt8.ofNat (48 + r)] := by
  match r, h with
  | 0, _ => rfl | 1, _ => rfl | 2, _ => rfl | 3, _ => rfl | 4, _ => rfl | 5, _ => rfl | 6, _ => rfl | 7, _ => rfl | 8, _ => rfl | 9, _ => rfl
theorem small_le {a b : Nat} (ha : a ≤ 1000) (hb : b ≤ 1000) : small a b 1 = true := by
  unfold small
  refine Nat.ble_eq_true_of_le ?_
  refine Nat.le_trans (Nat.mul_le_mul (show 2 * a + 8 ≤ 2008 by omega) (show 1 + b + 1 ≤ 1002 by omega)) (by decide)

noncomputable def loop12 : Code := match Tryz.f12.body with
  | some (.seq _ (.seq _ (.seq (.seq _ (.block _ l)) _))) => l
  | _ => .skip

theorem loop12_run (S : Caller) (h : Heap) : ∀ (m : Nat) (s : ByteArray) (tm : Tm), m < 2 ^ 63 → (bl s).length + (dec m).length ≤ 100 → tm.length = 19 → getT tm 0 = .int .i64 (m : Int) → getT tm 3 = .string s → getT tm 4 = .bool true →
    W Tryz.prog S loop12 ⟨tm, h⟩ fun e t => e = .exit 0 ∧ ∃ tm', t = ⟨tm', h⟩ ∧ tm'.length = 19 ∧ getT tm' 3 = .string ⟨(dec m ++ bl s).toArray⟩ := by
  intro m
  induction m using Nat.strongRecOn with
  | _ m ih =>
    intro s tm hm hlen hl h0 h3 h4
    have hpos := dec_pos m
    have hrl : m % 10 < 10 := Nat.mod_lt _ (by decide)
    refine W.loop (W.seq (W.seq (W.region (by kernel_rfl) (.quiet rfl rfl rfl (.nil ?_)))))
    refine W.cond (t := true) (by simp [ev_tmp, put_some, get_set, len_set, hl, h4]) (W.skip ?_)
    refine W.seq (W.block (W.seq (W.region (by kernel_rfl) ?_)))
    have hr : (m : Int).tmod 10 = (m : Int) % 10 := Int.tmod_eq_emod_of_nonneg (by omega)
    have hq : (m : Int).tdiv 10 = (m : Int) / 10 := Int.tdiv_eq_ediv_of_nonneg (by omega)
    refine RW.quiet rfl rfl rfl ?_
    refine RW.quiet (v := .int .i64 ((m : Int) % 10)) rfl rfl (by simp [AX.quiet, binV, hr, ev_tmp, put_some, get_set, len_set, hl, h0, h3, h4, ev, closed, closed0]) ?_
    refine RW.quiet rfl rfl rfl ?_
    refine RW.quiet (v := .int .i64 ((m : Int) % 10)) rfl rfl (by simp [AX.quiet, binV, hr, ev_tmp, put_some, get_set, len_set, hl, h0, h3, h4, ev, closed, closed0]) ?_
    refine RW.quiet (v := .int .i64 ((m : Int) % 10 + 1)) rfl rfl (by simp [AX.quiet, binV, ev_tmp, put_some, get_set, len_set, hl, h0, h3, h4, ev, closed, closed0]; exact IntWalk.i64_in _ (by omega)) ?_
    refine RW.quiet (v := .string ⟨[UInt8.ofNat (48 + m % 10)].toArray⟩) rfl rfl (by
      have e1 : ((m : Int) % 10).toNat = m % 10 := by omega
      have e2 : ((m : Int) % 10 + 1).toNat = m % 10 + 1 := by omega
      have e3 : (m : Int) % 10 + 1 ≤ 10 := by omega
      have e4 : 0 ≤ (m : Int) % 10 + 1 := by omega
      have e5 : 0 ≤ (m : Int) % 10 := by omega
      have e6 : m % 10 + 1 - m % 10 = 1 := by omega
      have e7 : (m : Int) % 10 ≤ (m : Int) % 10 + 1 := by omega
      have e8 := digit _ hrl
      simp at e8
      simp [AX.quiet, sliceV, Tryz.underlying9, boundOf, bl, e1, e2, e3, e4, e5, e6, e7, e8, ev_tmp, put_some, get_set, len_set, hl, h0, h3, h4, ev, closed, closed0]) ?_
    refine RW.quiet rfl rfl rfl ?_
    refine RW.quiet (v := .string ⟨(UInt8.ofNat (48 + m % 10) :: bl s).toArray⟩) rfl rfl (by
      have e1 : small 1 (bl s).length 1 = true := small_le (by omega) (by omega)
      simp [AX.quiet, binV, bl, ev_tmp, put_some, get_set, len_set, hl, h0, h3, h4, ev, closed, closed0]
      simpa [bl] using e1) ?_
    refine RW.quiet rfl rfl rfl (.nil ?_)
    refine W.region (by kernel_rfl) ?_
    refine RW.quiet rfl rfl rfl ?_
    refine RW.quiet (v := .int .i64 ((m : Int) / 10)) rfl rfl (by simp [AX.quiet, binV, hq, ev_tmp, put_some, get_set, len_set, hl, h0, h3, h4, ev, closed, closed0]; exact IntWalk.i64_in _ (by omega)) ?_
    refine RW.quiet rfl rfl rfl (.nil ?_)
    refine W.region (by kernel_rfl) ?_
    refine RW.quiet rfl rfl rfl ?_
    refine RW.quiet (v := .bool (decide (m / 10 > 0))) rfl rfl (by
      have e1 : ((m : Int) / 10 > 0) ↔ m / 10 > 0 := by omega
      simp [AX.quiet, binV, ev_tmp, put_some, get_set, len_set, hl, h0, h3, h4, ev, closed, closed0]
      omega) ?_
    refine RW.quiet rfl rfl rfl (.nil ?_)
    by_cases hm0 : m < 10
    · have hd : decide (m / 10 > 0) = false := by simp; omega
      refine W.loop (W.seq (W.seq (W.region (by kernel_rfl) (.quiet rfl rfl rfl (.nil ?_)))))
      refine W.cond (t := false) (by simp [ev_tmp, put_some, get_set, len_set, hl, h0, h3, h4, ev, closed, closed0]; omega) (W.exit ⟨rfl, _, rfl, ?_, ?_⟩)
      · simp [ev_tmp, put_some, get_set, len_set, hl, h0, h3, h4, ev, closed, closed0]
      · simp [ev_tmp, put_some, get_set, len_set, hl, h0, h3, h4, ev, closed, closed0]
        rw [dec_lt hm0]
        have : m % 10 = m := Nat.mod_eq_of_lt hm0
        simp [this]
    · refine (ih (m / 10) (by omega) ⟨(UInt8.ofNat (48 + m % 10) :: bl s).toArray⟩ _ (by omega) ?_ ?_ ?_ ?_ ?_).mono ?_
      · rw [dec_ge hm0] at hlen
        simp [bl] at hlen ⊢; omega
      · simp [ev_tmp, put_some, get_set, len_set, hl, h0, h3, h4, ev, closed, closed0]
      · simp [ev_tmp, put_some, get_set, len_set, hl, h0, h3, h4, ev, closed, closed0]
      · simp [ev_tmp, put_some, get_set, len_set, hl, h0, h3, h4, ev, closed, closed0]
      · simp [ev_tmp, put_some, get_set, len_set, hl, h0, h3, h4, ev, closed, closed0]; omega
      · rintro e t ⟨rfl, tm', rfl, g1, g2⟩
        refine ⟨rfl, tm', rfl, g1, ?_⟩
        rw [g2, dec_ge hm0]
        simp [bl]

/-- path.number: digits. -/
def g12 (args : List Value) (_ : Heap) : Option Value :=
  match args with
  | [.int .i64 n] => if 0 ≤ n ∧ n < 2 ^ 63 then some (.string ⟨(dec n.toNat).toArray⟩) else none
  | _ => none
theorem f12_run (S : Caller) (h : Heap) (m : Nat) (hm : m < 2 ^ 63) : ∃ n v h', callBody Tryz.prog (exec Tryz.prog S n) 12 [.int .i64 (m : Int)] h = some (v, h') ∧ v = .string ⟨(dec m).toArray⟩ ∧ h' = h := by
  refine callBody_of Tryz.func12 rfl ?_
  have hn : ([Value.int .i64 (m : Int)] ++ List.replicate (Tryz.f12.ntmps - 1) undef).length = 19 := rfl
  have h0 : getT ([Value.int .i64 (m : Int)] ++ List.replicate (Tryz.f12.ntmps - 1) undef) 0 = .int .i64 (m : Int) := rfl
  show W Tryz.prog S _ ⟨[Value.int .i64 (m : Int)] ++ List.replicate (Tryz.f12.ntmps - 1) undef, h⟩ _
  generalize [Value.int .i64 (m : Int)] ++ List.replicate (Tryz.f12.ntmps - 1) undef = tm at hn h0
  refine W.seq (W.region (by kernel_rfl) (.quiet rfl rfl rfl (.nil ?_)))
  refine W.seq (W.region (by kernel_rfl) (.quiet rfl rfl rfl (.nil ?_)))
  refine W.seq (W.seq (W.region (by kernel_rfl) (.quiet rfl rfl rfl (.nil ?_))))
  have hlen := dec_len 18 m (by omega)
  refine W.block ((loop12_run S h m ⟨#[]⟩ _ hm (by simp [bl]; omega) (by simp [hn, ev_tmp, put_some, get_set, len_set, ev, closed, closed0]) (by simp [hn, h0, ev_tmp, put_some, get_set, len_set, ev, closed, closed0]) (by simp [hn, ev_tmp, put_some, get_set, len_set, ev, closed, closed0]) (by simp [hn, ev_tmp, put_some, get_set, len_set, ev, closed, closed0])).mono ?_)
  rintro e t ⟨rfl, tm', rfl, g1, g2⟩
  refine W.seq (W.region (by kernel_rfl) (.quiet rfl rfl rfl (.quiet rfl rfl rfl (.nil ?_))))
  refine W.ret ⟨.inr rfl, _, rfl, ?_, rfl⟩
  simp [ev_tmp, put_some, get_set, len_set, ev, closed, closed0, g1, g2, bl]
theorem ok12 {NG B : Nat} {J : Map → Heap → World → Prop} {S : Caller} (hm : Tryz.prog.follows .mixedOrders = true) (hx : XOK Tryz.prog) (hN : NOK Tryz.prog) (hG : NG = Tryz.prog.globals.size) (hC : JC J) (hS : KOK Tryz.prog NG B J S) : KOK Tryz.prog NG B J (pureS 12 g12) := by
  refine pure_ok hm hx hN hG hC hS fun args h v hf hg => ?_
  unfold g12 at hg
  split at hg
  · rename_i n
    split at hg
    · rename_i hn
      cases hg
      obtain ⟨m, rfl⟩ : ∃ m : Nat, n = m := ⟨n.toNat, by omega⟩
      obtain ⟨k, v', h', h1, h2, h3⟩ := f12_run S h m (by omega)
      refine ⟨.string _, k, v', h', h1, by rw [h2]; simp, by rw [h3]; exact .refl _⟩
    · cases hg
  · cases hg
end Go.AX
