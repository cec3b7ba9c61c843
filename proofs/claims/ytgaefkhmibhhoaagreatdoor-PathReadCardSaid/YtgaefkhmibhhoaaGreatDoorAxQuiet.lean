/- A part of the proof that rubriclaw22.PathRead returns true for every text. -/
import Derived.Test.YtgaefkhmibhhoaaGreatDoorAxHeap
import Derived.Laws.Strings
import Derived.Laws.Strings2
import Derived.Laws.StructEq
import Derived.Laws.Slices
import Derived.Laws.Tables
import Derived.Laws.Pointers
set_option linter.unusedSimpArgs false
set_option linter.unusedVariables false
namespace Go.AX
open Go

section
variable {P : Program} {w : World}

theorem run_und {t : TypeId} {d : TypeDesc} (h : P.underlying t = some d) : (underlying t).run P w = .ok d w := by
  simp [underlying, h]
theorem run_info {t : TypeId} {i : TypeInfo} (h : P.info? t = some i) : (typeInfo t).run P w = .ok i w := by
  simp [typeInfo, h]
theorem run_size {t : TypeId} {n : Nat} (h : AX.sizeOf P t = some n) : (Go.sizeOf t).run P w = .ok n w := by
  simp only [AX.sizeOf, Option.map_eq_some_iff] at h
  obtain ⟨i, h1, rfl⟩ := h
  simp [Go.sizeOf, run_info h1]
theorem zeroOf_eq {t : TypeId} {z : Value} (h : zeroOf P t = some z) : (∃ i, P.info? t = some i ∧ i.zero = some z) ∧ closed z = true := by
  unfold zeroOf at h
  split at h
  · rename_i z' hz
    split at h
    · rename_i hc
      cases h
      simp only [Option.bind_eq_some_iff] at hz
      exact ⟨hz, hc⟩
    · cases h
  · cases h
theorem run_zero {t : TypeId} {z : Value} (h : zeroOf P t = some z) : (zeroValue t).run P w = .ok z w := by
  obtain ⟨⟨i, h1, h2⟩, _⟩ := zeroOf_eq h
  simp [zeroValue, run_info h1, h2]
theorem run_isAgg {t : TypeId} {b : Bool} (h : AX.isAgg P t = some b) : (Go.isAgg t).run P w = .ok b w := by
  unfold AX.isAgg at h
  split at h
  · rename_i fs hu; cases h; simp [Go.isAgg, run_und hu]
  · rename_i n e hu; cases h; simp [Go.isAgg, run_und hu]
  · rename_i d h1 h2 hu
    cases h
    simp only [Go.isAgg, Sem.run_bind, run_und hu, Result.andThen_ok]
    cases d <;> first | rfl | exact absurd rfl (h1 _) | exact absurd rfl (h2 _ _)
  · cases h

variable {NG B : Nat} {ρ : Map} {h : Heap}

theorem add_eq (b o i : Nat) : (⟨b, o, none⟩ : Addr).add i = ⟨b, o + i, none⟩ := by
  unfold Addr.add
  split
  · rename_i e; subst e; rfl
  · rfl

theorem blk_some {x : Nat} {b : Blk} (hb : h.blk x = some b) : h.get x = some (.cells b) := by
  unfold Heap.blk at hb
  split at hb
  · rename_i e; cases hb; exact e
  · cases hb

theorem cell_of {g i : Nat} {c : Array Value} {e : TypeId} {fr : Nat × Nat} {v : Value} (hg : w.heap[g]? = some (.cells c e fr)) (hi : c[i]? = some v) : w.cell? ⟨g, i, none⟩ = some v := by
  simp [World.cell?, hg, hi]
theorem frozen_of {g i : Nat} {c : Array Value} {e : TypeId} {fr : Nat × Nat} (hg : w.heap[g]? = some (.cells c e fr)) (hi : ¬ (fr.1 ≤ i ∧ i < fr.2)) : w.frozen? ⟨g, i, none⟩ = false := by
  obtain ⟨lo, hi'⟩ := fr
  simp only [World.frozen?, hg]
  simp only at hi
  by_cases h1 : lo ≤ i <;> by_cases h2 : i < hi' <;> simp [h1, h2] <;> first | exact absurd ⟨h1, h2⟩ hi | omega

theorem read_sound (hh : HR NG B ρ h w) {x o n : Nat} {r : List Value} (hr : h.read x o n = some r) {l : Loc} (hl : ρ x = some l) :
    ∃ r', LR ρ r r' ∧ r.length = n ∧ (∀ (i : Nat) (v : Value), r'[i]? = some v → w.cell? ⟨l.b, l.base + o + i, none⟩ = some v) := by
  unfold Heap.read at hr
  split at hr
  · rename_i b hb
    have hb := blk_some hb
    obtain ⟨l', hl', hbr, _⟩ := hh.cells x b hb
    rw [hl] at hl'; cases hl'
    obtain ⟨⟨c, fr, h1, h2, _, h4⟩, _, _, h7, _⟩ := hbr
    obtain ⟨hlen, hmax, hget, _⟩ := take_drop_get hr
    refine ⟨(c.toList.drop (l.base + o)).take n, ⟨?_, fun i u v hu hv => ?_⟩, hlen, fun i v hv => ?_⟩
    · simp only [List.length_take, List.length_drop, Array.length_toList]
      by_cases h0 : n = 0
      · omega
      · have : o + n ≤ b.cells.length := by
          rcases Nat.lt_or_ge b.cells.length o with h8 | h8
          · have := (takeN_eq _ _ _ hr).2; rw [dropN_eq] at this; simp at this; omega
          · omega
        omega
    · have hi : i < n := by rw [← hlen]; exact (List.getElem?_eq_some_iff.1 hu).1
      rw [hget i hi] at hu
      rw [List.getElem?_take, if_pos hi, List.getElem?_drop] at hv
      obtain ⟨v', h8, h9⟩ := h4 _ _ hu
      have : c.toList[l.base + o + i]? = c[l.base + (o + i)]? := by rw [Nat.add_assoc]; simp
      rw [this, h8] at hv; cases hv
      exact h9
    · rw [List.getElem?_take] at hv
      split at hv
      · rw [List.getElem?_drop] at hv
        exact cell_of h1 (by simpa using hv)
      · cases hv
  · cases hr

theorem run_loadCells_of {b o n : Nat} {r' : List Value} (hlen : r'.length = n) (hc : ∀ (i : Nat) (v : Value), r'[i]? = some v → w.cell? ⟨b, o + i, none⟩ = some v) :
    (loadCells ⟨b, o, none⟩ n).run P w = .ok r'.toArray w := by
  subst hlen
  exact run_loadCells_list w ⟨b, o, none⟩ r' fun j v hv => by rw [add_eq]; exact hc j v hv

theorem loadVar_sound (hh : HR NG B ρ h w) {t : TypeId} {x o : Nat} {v : Value} {l : Loc} (hl : ρ x = some l) (hv : AX.loadVar P h t ⟨x, o, none⟩ = some v) :
    ∃ v', (Go.loadVar t ⟨l.b, l.base + o, none⟩).run P w = .ok v' w ∧ VR ρ v v' := by
  unfold AX.loadVar at hv
  split at hv
  · rename_i ha _
    simp only [Option.bind_eq_bind, Option.bind_eq_some_iff] at hv
    obtain ⟨n, hn, r, hr, hv⟩ := hv
    cases hv
    obtain ⟨r', h1, h2, h3⟩ := read_sound hh hr hl
    refine ⟨.agg r'.toArray, ?_, h1.agg⟩
    simp [Go.loadVar, run_isAgg ha, run_size hn, run_loadCells_of (P := P) (h1.1.symm.trans h2) h3]
  · rename_i ha _
    simp only [Option.bind_eq_bind, Option.bind_eq_some_iff] at hv
    obtain ⟨r, hr, hv⟩ := hv
    split at hv
    · cases hv
      obtain ⟨r', h1, h2, h3⟩ := read_sound hh hr hl
      obtain ⟨v', r2, rfl, h4, h5⟩ := h1.cons_inv
      have := h3 0 v' (by simp)
      refine ⟨v', ?_, h4⟩
      simp only [Nat.add_zero] at this
      simp [Go.loadVar, run_isAgg ha, this]
    · cases hv
  · cases hv

theorem part_sound {t : TypeId} {cs cs' : List Value} (hc : LR ρ cs cs') {off : Nat} {v : Value} (hv : AX.part P t cs off = some v) :
    ∃ v', (Go.part t cs'.toArray off).run P w = .ok v' w ∧ VR ρ v v' := by
  unfold AX.part at hv
  split at hv
  · rename_i ha
    simp only [Option.bind_eq_bind, Option.bind_eq_some_iff] at hv
    obtain ⟨n, hn, r, hr, hv⟩ := hv
    cases hv
    obtain ⟨_, _, _, rfl⟩ := take_drop_get hr
    refine ⟨.agg ((cs'.drop off).take n).toArray, ?_, ((hc.drop off).take n).agg⟩
    simp [Go.part, run_isAgg ha, run_size hn]
  · rename_i ha
    obtain ⟨v', h1, h2⟩ := hc.get hv
    refine ⟨v', ?_, h2⟩
    simp [Go.part, run_isAgg ha, h1]
  · cases hv

/-! ### binary operations -/
theorem bl_eq (s : ByteArray) : s.toList = bl s := ByteArray.toList_eq s
theorem bl_length (s : ByteArray) : (bl s).length = s.size := by unfold bl ByteArray.size; exact Array.length_toList
theorem mk_bl (s : ByteArray) : (⟨(bl s).toArray⟩ : ByteArray) = s := by cases s; unfold bl; simp only [Array.toArray_toList]

theorem eqFlat_sound (d : Nat) : ∀ (fs : List Field) {xs ys xs' ys' : List Value} (_ : LR ρ xs xs') (_ : LR ρ ys ys') {b : Bool} (_ : eqFlat P fs xs ys = some b),
    (Op.eqFields (d + 1) xs'.toArray ys'.toArray fs).run P w = .ok b w := by
  intro fs
  induction fs with
  | nil => intro xs ys xs' ys' _ _ b hb; simp only [eqFlat, Option.some.injEq] at hb; subst hb; simp [Op.eqFields]
  | cons f fs ih =>
    intro xs ys xs' ys' hx hy b hb
    unfold eqFlat at hb
    split at hb
    · cases hb
    · rename_i hne
      have hpart : ∀ {D : TypeDesc} {v v' : Value} {zs zs' : List Value}, P.underlying f.type = some D → (match D with | .struct _ | .array _ _ => true | _ => false) = false → LR ρ zs zs' → zs[f.offset]? = some v → ∃ v', zs'[f.offset]? = some v' ∧ VR ρ v v' ∧ (Go.part f.type zs'.toArray f.offset).run P w = .ok v' w := by
        intro D v v' zs zs' hD hd hz hv
        obtain ⟨v', h1, h2⟩ := hz.get hv
        refine ⟨v', h1, h2, ?_⟩
        have ha : (Go.isAgg f.type).run P w = .ok false w := by
          simp only [Go.isAgg, Sem.run_bind, run_und hD, Result.andThen_ok]
          cases D <;> first | rfl | cases hd
        simp [Go.part, ha, h1]
      split at hb
      · rename_i k0 k a k' c hu ha hc
        obtain ⟨a', _, h3, h4⟩ := hpart (v' := undef) hu rfl hx ha
        obtain ⟨c', _, h5, h6⟩ := hpart (v' := undef) hu rfl hy hc
        cases h3; cases h5
        split at hb
        · rename_i hk; subst hk
          simp only [Op.eqFields, Sem.run_bind, Sem.run_ite, h4, h6, Result.andThen_ok, run_equalIn_int w d f.type k k0 a c hu, if_pos hne]
          split at hb
          · rename_i e
            simp only [e, Bool.not_true, Bool.false_eq_true, if_false]
            exact ih hx hy hb
          · rename_i e
            cases hb
            simp [e]
        · cases hb
      · rename_i a c hu ha hc
        obtain ⟨a', _, h3, h4⟩ := hpart (v' := undef) hu rfl hx ha
        obtain ⟨c', _, h5, h6⟩ := hpart (v' := undef) hu rfl hy hc
        cases h3; cases h5
        simp only [Op.eqFields, Sem.run_bind, Sem.run_ite, h4, h6, Result.andThen_ok, run_equalIn_string w d f.type a c hu, if_pos hne, bl_eq]
        split at hb
        · rename_i e
          simp only [e, Bool.not_true, Bool.false_eq_true, if_false]
          exact ih hx hy hb
        · rename_i e
          cases hb
          simp [e]
      · rename_i a c hu ha hc
        obtain ⟨a', _, h3, h4⟩ := hpart (v' := undef) hu rfl hx ha
        obtain ⟨c', _, h5, h6⟩ := hpart (v' := undef) hu rfl hy hc
        cases h3; cases h5
        simp only [Op.eqFields, Sem.run_bind, Sem.run_ite, h4, h6, Result.andThen_ok, run_equalIn_bool' w d f.type a c hu, if_pos hne]
        split at hb
        · rename_i e
          simp only [e, Bool.not_true, Bool.false_eq_true, if_false]
          exact ih hx hy hb
        · rename_i e
          cases hb
          simp [e]
      · cases hb
end
end Go.AX
