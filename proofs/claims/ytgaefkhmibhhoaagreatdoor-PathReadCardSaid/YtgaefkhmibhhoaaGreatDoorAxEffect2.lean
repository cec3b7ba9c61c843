/- A part of the proof that rubriclaw22.PathRead returns true for every text. -/
import Derived.Test.YtgaefkhmibhhoaaGreatDoorAxEffect
import Derived.Laws.MakeOwn
set_option linter.unusedSimpArgs false
set_option linter.unusedVariables false
namespace Go.AX
open Go
section
variable {P : Program} {w : World} {NG B : Nat} {ρ : Map} {h : Heap}

theorem copyV_sound (hh : HR NG B ρ h w) {ts : Array TypeId} {ty : TypeId} {args args' : List Value} {v : Value} {h' : Heap} (hv : copyV P ts args h = some (v, h')) (ha : LR ρ args args') :
    Res NG B ρ h w ((Builtin.copy_ ts ty args'.toArray).run P w) v h' := by
  unfold copyV at hv
  split at hv
  · rename_i dT base dLen dCap src hs0
    obtain ⟨s', t1, rfl, hs', ht1⟩ := ha.cons_inv
    obtain ⟨x', t2, rfl, hx', ht2⟩ := ht1.cons_inv
    cases ht2.nil_inv
    split at hv
    · rename_i e hu
      simp only [Option.bind_eq_bind, Option.bind_eq_some_iff] at hv
      obtain ⟨size, hsz, sn, hsn, cells, hcells, hv⟩ := hv
      obtain ⟨hl1, hl2⟩ := lenOf_sound (P := P) (w := w) hsn hx'
      obtain ⟨cells', hc1, hc2⟩ := firstOf_sound (P := P) hh hcells hx' (fun a l c h => by rw [← hl2 a l c h]; exact Nat.min_le_left _ _)
      have hc0 : (Builtin.firstCells size (sn.min dLen) x').run P w = .ok cells'.toArray w := hc1 w.drawn
      have hrun : ∀ (base' : Option Addr) (cap' : Nat) (w' : World), s' = .slice base' dLen cap' → (∀ a, base' = some a → (storeCells a cells').run P w = .ok () w') → (base' = none → w' = w) →
          (Builtin.copy_ ts ty #[s', x']).run P w = .ok (goInt (sn.min dLen)) w' := by
        intro base' cap' w' e h1 h2
        subst e
        cases base' with
        | none =>
          have := h2 rfl
          subst this
          simp [Builtin.copy_, hs0, run_und hu, hl1, run_size hsz, hc0]
        | some a =>
          have := h1 a rfl
          simp [Builtin.copy_, hs0, run_und hu, hl1, run_size hsz, hc0, this]
      split at hv
      · rename_i hemp
        cases hv
        have : cells' = [] := by
          have e := hc2.1
          simp only [List.isEmpty_iff] at hemp
          rw [hemp] at e
          cases cells' with
          | nil => rfl
          | cons a b => simp at e
        subst this
        cases hs' with
        | nilSlice => exact ⟨_, w, ρ, hrun none 0 w rfl (fun _ h => by cases h) (fun _ => rfl), .refl _ _ _ _, hh, .int _ _⟩
        | slice x o l _ _ cap' a' => exact ⟨_, w, ρ, hrun (some a') cap' w rfl (fun _ _ => rfl) (fun _ => rfl), .refl _ _ _ _, hh, .int _ _⟩
      · rename_i hemp
        split at hv
        · rename_i a
          split at hv
          · cases hv
          · rename_i hone
            simp only [not_or, Bool.not_eq_true', Bool.not_eq_false] at hone
            simp only [Option.bind_eq_some_iff] at hv
            obtain ⟨h2, hw, hv⟩ := hv
            cases hv
            cases hs' with
            | slice x o l _ _ cap' a' hl hcap hlen haddr hex =>
              have hpos : cap' ≠ 0 := by
                intro e0
                have e1 : dLen = 0 := by omega
                subst e1
                apply hemp
                have e2 : sn.min 0 = 0 := Nat.min_zero _
                rw [e2] at hcells
                unfold firstOf at hcells
                split at hcells
                · split at hcells
                  · cases hcells
                  · simp only [Nat.zero_mul] at hcells
                    unfold Heap.read at hcells
                    split at hcells
                    · simp only [takeN, Option.some.injEq] at hcells
                      rw [← hcells]; rfl
                    · cases hcells
                · simp only [if_true, Option.some.injEq] at hcells; rw [← hcells]; rfl
                · cases hcells; simp
                · cases hcells
              obtain ⟨ha', _⟩ := haddr hpos
              subst ha'
              obtain ⟨w', g1, g2, g3⟩ := write_sound (P := P) hh hw hl (fun e => hemp (by rw [e]; rfl)) hc2 (hc2.oneCells hone.2)
              exact ⟨_, w', ρ, hrun (some ⟨l.b, l.base + o, none⟩) cap' w' rfl (fun a h => by cases h; exact g1) (fun h => by cases h), g3, g2, .int _ _⟩
        · cases hv
    · cases hv
  · cases hv

theorem storeV_sound (hh : HR NG B ρ h w) {t : TypeId} {a v a' v' : Value} {h' : Heap} (hv : storeV P t a v h = some h') (ha : VR ρ a a') (hx : VR ρ v v') :
    ∃ w', (Instr.storeAt t a' v').run P w = .ok () w' ∧ Step h.next ρ h w ρ h' w' ∧ HR NG B ρ h' w' := by
  unfold storeV at hv
  split at hv
  · rename_i A
    simp only [Option.bind_eq_bind, Option.bind_eq_some_iff] at hv
    obtain ⟨n, hn, hv⟩ := hv
    split at hv
    · cases hv
    · rename_i hc
      simp only [not_or, ne_eq, Decidable.not_not, Bool.not_eq_true', Bool.not_eq_false] at hc
      cases ha with
      | ptr x o l hl =>
        have hcl := hx.cells
        have hsz : v'.cells.size = n := by have := hcl.1; simp at this; omega
        obtain ⟨w', g1, g2, g3⟩ := write_sound (P := P) hh hv hl (fun e => hc.2.2.1 (by have := hc.2.1; rw [← this]; simpa using congrArg List.length e)) hcl (hcl.oneCells hc.2.2.2)
        exact ⟨w', by simp [Instr.storeAt, Instr.sureAddr, Go.storeVar, run_size hn, hsz, g1], g3, g2⟩
  · cases hv

theorem makeSliceV_sound (hh : HR NG B ρ h w) {t : TypeId} {l c l' c' : Value} {v : Value} {h' : Heap} (hv : makeSliceV P t l c h = some (v, h')) (hl : VR ρ l l') (hc : VR ρ c c') :
    Res NG B ρ h w ((Instr.makeSlice t l' c').run P w) v h' := by
  unfold makeSliceV at hv
  split at hv
  · rename_i e l c hu
    cases hl; cases hc
    simp only [Option.bind_eq_bind, Option.bind_eq_some_iff] at hv
    obtain ⟨i, hi, z, hz, hv⟩ := hv
    split at hv
    · cases hv
    · rename_i hcond
      simp only [not_or, ne_eq, Decidable.not_not, Int.not_lt] at hcond
      obtain ⟨c1, c2, c3, c4⟩ := hcond
      split at hv
      · cases hv
      · rename_i hsm
        cases hv
        have hsm : (2 * c.toNat + 8) * (i.bytes + i.size + 1) ≤ 2 ^ 46 := by
          simp only [small, Bool.not_eq_true', Bool.not_eq_false] at hsm
          exact Nat.le_of_ble_eq_true hsm
        have hcap : c.toNat ≤ 2 ^ 46 := by
          have : (2 * c.toNat + 8) * 1 ≤ (2 * c.toNat + 8) * (i.bytes + i.size + 1) := Nat.mul_le_mul_left _ (by omega)
          omega
        have hbytes : i.bytes * c.toNat ≤ 2 ^ 46 := by
          have : c.toNat * i.bytes ≤ (2 * c.toNat + 8) * (i.bytes + i.size + 1) := Nat.mul_le_mul (by omega) (by omega)
          rw [Nat.mul_comm]; omega
        obtain ⟨⟨i2, hi2, hzz⟩, hcl⟩ := zeroOf_eq hz
        rw [hi] at hi2; cases hi2
        have hrun := run_make (P := P) w t e i z hu hi hzz .i64 .i64 l c c1 c2 (by
          have : ((i.bytes * c.toNat : Nat) : Int) ≤ 2 ^ 46 := by exact_mod_cast hbytes
          rw [Int.natCast_mul, Int.toNat_of_nonneg (by omega)] at this
          omega) (by omega)
        have hcells : (madeCells z.cells (c.toNat * i.size)) = (zeros z.cells.toList c.toNat).toArray := zeros_eq z.cells c.toNat i.size c4 c3
        rw [hcells] at hrun
        have hzl : ∀ m, LR ρ (zeros z.cells.toList m) (zeros z.cells.toList m) := by
          have hz0 : LR ρ z.cells.toList z.cells.toList := VR.cells (VR.closed (ρ := ρ) hcl)
          intro m
          induction m with
          | zero => exact .nil _
          | succ m ih => exact hz0.append ih
        have hlen : (zeros z.cells.toList c.toNat).length = c.toNat * i.size := by rw [zeros_length]; simp [c4]
        obtain ⟨g1, g2⟩ := row_sound (n := ⟨zeros z.cells.toList c.toNat, e, i.size, none⟩) (c := (zeros z.cells.toList c.toNat).toArray) (fr := (0, 0)) (d := w.drawn) hh (.inl rfl) (by
          simp only [List.take_length]; exact hzl _) (by simp)
        refine ⟨_, _, _, hrun, g2, g1, ?_⟩
        refine .slice h.next 0 _ _ _ _ ⟨w.heap.size, 0, none⟩ (upd_same _ _ _) (Nat.le_refl _) (by omega) (fun _ => ⟨by simp, ?_⟩) (.inl rfl)
        dsimp only
        rw [List.size_toArray, hlen]; omega
  · cases hv

theorem markStringish_run {a : Addr} {c : Array Value} {e : TypeId} {fr : Nat × Nat} (hg : w.heap[a.block]? = some (.cells c e fr)) :
    (markStringish a).run P w = .ok () (setBlk w a.block (.cells c e (if fr.1 == fr.2 then (c.size, c.size + 1) else (min fr.1 c.size, max fr.2 (c.size + 1))))) := by
  have hsh : w.shape? a.block = some (e, c.size) := by simp [World.shape?, hg]
  have hlt : a.block < w.heap.size := (Array.getElem?_eq_some_iff.1 hg).1
  have hge : w.heap[a.block] = .cells c e fr := (Array.getElem?_eq_some_iff.1 hg).2
  have : w.freeze { block := a.block, off := c.size } 1 = setBlk w a.block (.cells c e (if fr.1 == fr.2 then (c.size, c.size + 1) else (min fr.1 c.size, max fr.2 (c.size + 1)))) := by
    unfold World.freeze setBlk
    rw [if_neg (by omega)]
    congr 1
    apply Array.ext
    · simp
    · intro k h1 h2
      simp only [Array.size_modify] at h1
      rw [Array.getElem_modify, Array.getElem_setIfInBounds (by simpa using h2)]
      by_cases hk : a.block = k
      · rw [if_pos hk, if_pos hk]
        have : w.heap[k] = .cells c e fr := by rw [← hge]; congr 1; exact hk.symm
        rw [this]
      · rw [if_neg hk, if_neg hk]
  simp [markStringish, hsh, this]

theorem strBytes_sound (hh : HR NG B ρ h w) {e : TypeId} {s : ByteArray} {v : Value} {h' : Heap} (hv : strBytes P e s h = some (v, h')) :
    Res NG B ρ h w ((Conv.stringToBytes e s).run P w) v h' := by
  unfold strBytes at hv
  simp only [Option.bind_eq_bind, Option.bind_eq_some_iff] at hv
  obtain ⟨i, hi, hv⟩ := hv
  split at hv
  · cases hv
  · cases hv
    let cap := (Question.appendCap s.size 0 e).cut (w.tape w.drawn (Question.appendCap s.size 0 e))
    have hcap : s.size ≤ cap := by simp only [cap, Question.cut]; exact Nat.le_add_right _ _
    let c : Array Value := s.data.map (fun b => Value.int .u8 b.toNat) ++ Array.replicate (cap - s.size) (.int .u8 0)
    have hcs : c.size = cap := by
      simp only [c, Array.size_append, Array.size_map, Array.size_replicate]
      have : s.data.size = s.size := rfl
      omega
    have hrun : (Conv.stringToBytes e s).run P w = .ok (.slice (some ⟨w.heap.size, 0, none⟩) s.size cap) { w with heap := w.heap.push (.cells c e (cap, cap + 1)), drawn := w.drawn + 1 } := by
      have hq : (Question.appendCap s.size 0 e).forced = false := rfl
      have hm := markStringish_run (P := P) (w := { w with heap := w.heap.push (.cells c e), drawn := w.drawn + 1 }) (a := ⟨w.heap.size, 0, none⟩) (c := c) (e := e) (fr := (0, 0)) (by simp)
      have hw : setBlk { w with heap := w.heap.push (.cells c e), drawn := w.drawn + 1 } w.heap.size (.cells c e (c.size, c.size + 1)) = { w with heap := w.heap.push (.cells c e (cap, cap + 1)), drawn := w.drawn + 1 } := by
        unfold setBlk
        rw [hcs]
        congr 1
        apply Array.ext
        · simp
        · intro k h1 h2
          simp only [Array.size_push] at h2
          rw [Array.getElem_setIfInBounds (by simpa using h1)]
          by_cases hk : w.heap.size = k
          · subst hk; simp
          · rw [if_neg hk, Array.getElem_push_lt (by omega), Array.getElem_push_lt (by omega)]
      simp only [beq_self_eq_true, if_true] at hm
      rw [hw] at hm
      simp only [Conv.stringToBytes, Sem.run_bind, run_choose, hq, Bool.false_eq_true, if_false, Result.andThen_ok, newRow, run_newObj, Sem.run_pure]
      have e1 : Array.map (fun b : UInt8 => Value.int IntKind.u8 ↑b.toNat) s.data ++ Array.replicate ((Question.appendCap s.size 0 e).cut (w.tape w.drawn (Question.appendCap s.size 0 e)) - s.size) (Value.int IntKind.u8 0) = c := rfl
      rw [e1]
      have hm2 : (markStringish ⟨w.heap.size, 0, none⟩).run P { w with heap := w.heap.push (.cells c e), drawn := w.drawn + 1 } = _ := hm
      simp only [hm2, Result.andThen_ok]
      rfl
    have hbl := bl_length s
    obtain ⟨g1, g2⟩ := row_sound (n := ⟨(bl s).map fun b => .int .u8 b.toNat, e, 1, none⟩) (c := c) (fr := (cap, cap + 1)) (d := w.drawn + 1) hh (.inr (by simp only; omega)) (by
      have : c.toList.take ((bl s).map fun b : UInt8 => Value.int .u8 b.toNat).length = (bl s).map fun b => .int .u8 b.toNat := by
        simp only [c, Array.toList_append, Array.toList_map]
        rw [List.take_append_of_le_length (by simp [bl]), List.take_of_length_le (by simp [bl])]
        rfl
      simp only
      rw [this]
      exact .of_map _ _ _ fun _ _ => .int _ _) (by simp only [List.length_map]; omega)
    refine ⟨_, _, _, hrun, g2, g1, ?_⟩
    rw [← hbl]
    refine .slice h.next 0 _ _ _ cap ⟨w.heap.size, 0, none⟩ (upd_same _ _ _) (by omega) (by omega) (fun _ => ⟨by simp, by dsimp only; omega⟩) (.inr (by dsimp only; simp))

/-- A row's mark has turned, and no cell of it is frozen. -/
theorem HR.remark (hh : HR NG B ρ h w) {x : Nat} {b : Blk} {l : Loc} {c : Array Value} {fr fr' : Nat × Nat} (hl : ρ x = some l) (hg : w.heap[l.b]? = some (.cells c b.elem fr)) (hfr : fr'.1 = fr'.2 ∨ c.size ≤ fr'.1) :
    HR NG B ρ h (setBlk w l.b (.cells c b.elem fr')) where
  dom := fun x l hx => by rw [setBlk_size]; exact hh.dom x l hx
  cells := fun y bY hy => by
    obtain ⟨ly, h1, h2, h3⟩ := hh.cells y bY hy
    refine ⟨ly, h1, ?_, h3⟩
    by_cases e : ly.b = l.b
    · obtain ⟨⟨c2, fr2, g1, g2, g3, g4⟩, g5, g6, g7, g8⟩ := h2
      rw [e, hg] at g1
      injection g1 with g1
      injection g1 with e1 e2 _
      subst e1
      refine ⟨⟨c, fr', by rw [e, ← e2]; exact setBlk_same _ _ _ (hh.dom x l hl).2, g2, fun _ => by rw [← g2]; exact hfr, g4⟩, g5, g6, g7, g8⟩
    · exact h2.world (setBlk_ne _ _ _ _ e)
  iter := fun y s p hy => by
    obtain ⟨ly, h1, h2, h3⟩ := hh.iter y s p hy
    refine ⟨ly, h1, ?_, h3⟩
    rw [setBlk_ne _ _ _ _ (fun e => by rw [e, hg] at h2; cases h2)]
    exact h2
  sepC := hh.sepC
  sepI := hh.sepI
  glob := hh.glob
  next := hh.next
  room := by rw [setBlk_size]; exact hh.room

theorem convE_sound (hh : HR NG B ρ h w) {src dst : TypeId} {x x' : Value} {v : Value} {h' : Heap} (hv : convE P src dst x h = some (v, h')) (hx : VR ρ x x') :
    Res NG B ρ h w ((convert src dst x').run P w) v h' := by
  unfold convE at hv
  split at hv
  · rename_i e s hs hd
    cases hx
    split at hv
    · rename_i he
      have := strBytes_sound hh hv
      have e1 : (convert src dst (.string s)).run P w = (Conv.stringToBytes e s).run P w := by
        simp [convert, run_und hs, run_und hd, run_und he]
      rw [e1]; exact this
    · cases hv
  · rename_i e0 e a len cap hs hd
    split at hv
    · rename_i b he hb
      split at hv
      · rename_i hc
        cases hv
        obtain ⟨hsd, hc0, hro⟩ := hc
        cases hx with
        | slice x o l _ _ cap' a' hl hcap hlen haddr hex =>
          obtain ⟨ha', hs'⟩ := haddr (by omega)
          have hb := blk_some hb
          obtain ⟨l0, q1, q2, _⟩ := hh.cells x b hb
          rw [hl] at q1; cases q1
          obtain ⟨⟨c, fr, g1, g2, g3, g4⟩, _⟩ := q2
          subst ha'
          have hm := markStringish_run (P := P) (w := w) (a := ⟨l.b, l.base + o, none⟩) g1
          have hrun : (convert src dst (.slice (some ⟨l.b, l.base + o, none⟩) len cap')).run P w = .ok (.slice (some ⟨l.b, l.base + o, none⟩) len cap') (setBlk w l.b (.cells c b.elem (if fr.1 == fr.2 then (c.size, c.size + 1) else (min fr.1 c.size, max fr.2 (c.size + 1))))) := by
            subst hsd
            rw [hs] at hd
            cases hd
            simp [convert, run_und hs, run_und he, hm]
          refine ⟨_, _, ρ, hrun, Step.setBlk_step (.inl ⟨b, hb⟩) hl _ (Nat.le_refl _) (fun _ h => h), ?_, .slice x o l _ _ cap' _ hl hcap hlen haddr hex⟩
          refine hh.remark hl g1 ?_
          split
          · exact .inr (Nat.le_refl _)
          · rename_i hne
            rcases g3 hro with h1 | h1
            · exact absurd (by simp [h1]) hne
            · right; simp only; omega
      · cases hv
    · cases hv
  · cases hv
end
end Go.AX
