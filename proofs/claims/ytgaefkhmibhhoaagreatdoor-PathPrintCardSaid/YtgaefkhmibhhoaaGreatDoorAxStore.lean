/- A part of the proof that rubriclaw22.PathPrint returns true for every path. -/
import Derived.Test.YtgaefkhmibhhoaaGreatDoorAxQuiet
set_option linter.unusedSimpArgs false
set_option linter.unusedVariables false
namespace Go.AX
open Go
section
variable {P : Program} {w : World} {NG B : Nat} {ρ : Map} {h : Heap}

theorem setCell_eq {g i : Nat} {c : Array Value} {e : TypeId} {fr : Nat × Nat} (hg : w.heap[g]? = some (.cells c e fr)) (v : Value) :
    w.setCell ⟨g, i, none⟩ v = setBlk w g (.cells (c.setIfInBounds i v) e fr) := by
  have hlt : g < w.heap.size := (Array.getElem?_eq_some_iff.1 hg).1
  have hge : w.heap[g] = .cells c e fr := (Array.getElem?_eq_some_iff.1 hg).2
  unfold World.setCell setBlk
  congr 1
  apply Array.ext
  · simp
  · intro k h1 h2
    simp only [Array.size_modify] at h1
    rw [Array.getElem_modify, Array.getElem_setIfInBounds (by simpa using h2)]
    by_cases hk : g = k
    · subst hk
      rw [if_pos rfl, if_pos rfl, hge]
      rfl
    · rw [if_neg hk, if_neg hk]
theorem setBlk_setBlk (g : Nat) (a b : Obj) : setBlk (setBlk w g a) g b = setBlk w g b := by
  simp [setBlk]
theorem setBlk_self {g : Nat} {o : Obj} (hg : w.heap[g]? = some o) : setBlk w g o = w := by
  have hlt : g < w.heap.size := (Array.getElem?_eq_some_iff.1 hg).1
  have hge : w.heap[g] = o := (Array.getElem?_eq_some_iff.1 hg).2
  have : w.heap.setIfInBounds g o = w.heap := by
    apply Array.ext
    · simp
    · intro k h1 h2
      rw [Array.getElem_setIfInBounds h2]
      by_cases hk : g = k
      · subst hk; rw [if_pos rfl, hge]
      · rw [if_neg hk]
  unfold setBlk
  rw [this]

theorem run_storeCells {g p : Nat} {e : TypeId} {fr : Nat × Nat} : ∀ (new : List Value) (i : Nat) (cur : Array Value) (w : World), w.heap[g]? = some (.cells cur e fr) → (∀ v, v ∈ new → v.oneCell' = true) →
    p + i + new.length ≤ cur.size ∨ new = [] → (∀ k, p + i ≤ k → k < p + i + new.length → ¬ (fr.1 ≤ k ∧ k < fr.2)) →
    ∃ cur', (storeCells ⟨g, p, none⟩ new i).run P w = .ok () (setBlk w g (.cells cur' e fr)) ∧ cur'.size = cur.size ∧
      ∀ k, cur'[k]? = if p + i ≤ k ∧ k < p + i + new.length then new[k - (p + i)]? else cur[k]? := by
  intro new
  induction new with
  | nil =>
    intro i cur w hg _ _ _
    refine ⟨cur, ?_, rfl, fun k => ?_⟩
    · rw [setBlk_self hg]; rfl
    · rw [if_neg (by simp)]
  | cons v new ih =>
    intro i cur w hg hone hin hfr
    have hin : p + i + (new.length + 1) ≤ cur.size := by
      rcases hin with h | h
      · simpa using h
      · cases h
    simp only [List.length_cons] at hfr
    have hlt : g < w.heap.size := (Array.getElem?_eq_some_iff.1 hg).1
    have hc : w.cell? ⟨g, p + i, none⟩ = some cur[p + i] := cell_of hg (by simp)
    have hf : w.frozen? ⟨g, p + i, none⟩ = false := frozen_of hg (hfr _ (Nat.le_refl _) (by omega))
    have h1 : (store ((⟨g, p, none⟩ : Addr).add i) v).run P w = .ok () (setBlk w g (.cells (cur.setIfInBounds (p + i) v) e fr)) := by
      rw [add_eq, run_store P w _ v _ (hone v (by simp)), hc]
      simp only [hf, Bool.false_eq_true, if_false]
      rw [setCell_eq hg]
    obtain ⟨cur', h2, h3, h4⟩ := ih (i + 1) (cur.setIfInBounds (p + i) v) (setBlk w g (.cells (cur.setIfInBounds (p + i) v) e fr)) (setBlk_same _ _ _ hlt)
      (fun u hu => hone u (by simp [hu])) (.inl (by simp; omega)) (fun k hk1 hk2 => hfr k (by omega) (by omega))
    refine ⟨cur', ?_, by simpa using h3, fun k => ?_⟩
    · simp only [storeCells, Sem.run_bind, h1, Result.andThen_ok, h2, setBlk_setBlk]
    · rw [h4]
      by_cases hk : p + (i + 1) ≤ k ∧ k < p + (i + 1) + new.length
      · rw [if_pos hk, if_pos (by simp; omega)]
        have : k - (p + i) = (k - (p + (i + 1))) + 1 := by omega
        rw [this, List.getElem?_cons_succ]
      · rw [if_neg hk]
        by_cases hk2 : k = p + i
        · subst hk2
          rw [if_pos (by simp only [List.length_cons]; omega)]
          have hlt2 : p + i < cur.size := by omega
          simp [hlt2]
        · rw [if_neg (by simp; omega), Array.getElem?_setIfInBounds_ne (by omega)]

theorem write_sound (hh : HR NG B ρ h w) {x o : Nat} {new new' : List Value} {h' : Heap} {l : Loc} (hw : h.write x o new = some h') (hl : ρ x = some l) (hne : new ≠ []) (hn : LR ρ new new') (hone : ∀ v, v ∈ new' → v.oneCell' = true) :
    ∃ w', (storeCells ⟨l.b, l.base + o, none⟩ new').run P w = .ok () w' ∧ HR NG B ρ h' w' ∧ Step h.next ρ h w ρ h' w' := by
  unfold Heap.write at hw
  split at hw
  · rename_i b hb
    have hb := blk_some hb
    split at hw
    · cases hw
    · rename_i hro
      split at hw
      · rename_i cells hov
        cases hw
        obtain ⟨l', hl', hbr, hB, hmem, hfam⟩ := hh.cells x b hb
        rw [hl] at hl'; cases hl'
        have hro : b.ro = false := by simpa using hro
        obtain ⟨⟨c, fr, h1, h2, h3, h4⟩, h5, h6, h7, h8⟩ := hbr
        obtain ⟨q1, q2, q3⟩ := over_get _ _ _ _ hov
        have hlen := hn.1
        have q2 := q2 hne
        obtain ⟨c', r1, r2, r3⟩ := run_storeCells (P := P) (g := l.b) (p := l.base + o) (e := b.elem) (fr := fr) new' 0 c w h1 hone (.inl (by omega)) (fun k hk1 hk2 => by have := h3 hro; omega)
        refine ⟨_, r1, ?_, ?_⟩
        · have hon : HR NG B ρ (h.only b.fam x) w := hh.only b.fam x
          have hxo : (h.only b.fam x).get x = some (.cells b) := by rw [Heap.get_only, if_neg (by simp)]; exact hb
          refine hon.setCells (b := b) (b' := { b with cells }) hxo hl (fun z bz hz hf => ?_) hro rfl ?_ (Heap.next_put _ _ _) (fun z => Heap.get_put _ _ _ _) (fun f => Heap.members_put _ _ _ _)
          · rw [Heap.get_only] at hz
            split at hz
            · cases hz
            · rename_i hn2
              obtain ⟨_, _, _, _, hm2, _⟩ := hh.cells z bz hz
              rw [hf] at hm2
              exact Classical.byContradiction fun e => hn2 ⟨hm2, e⟩
          · refine ⟨⟨c', fr, setBlk_same _ _ _ (hh.dom x l hl).2, by rw [r2]; exact h2, fun _ => h3 hro, fun i v hv => ?_⟩, h5, h6, by simpa [q1] using h7, by simpa [q1] using h8⟩
            simp only at hv
            rw [q3] at hv
            rw [r3]
            by_cases hi : o ≤ i ∧ i < o + new.length
            · rw [if_pos hi] at hv
              rw [if_pos (by omega)]
              obtain ⟨y, hy1, hy2⟩ := hn.get hv
              exact ⟨y, by rw [← hy1]; congr 1; omega, hy2⟩
            · rw [if_neg hi] at hv
              rw [if_neg (by omega)]
              exact h4 i v hv
        · exact Step.setBlk_step (.inl ⟨b, hb, hro⟩) hl _ (by rw [Heap.next_put, Heap.next_only]; exact Nat.le_refl _) (fun z =>
            both_trans (alive_put (.inl ⟨b, by rw [Heap.get_only, if_neg (by simp)]; exact hb, hro⟩) z) (alive_only _ _ z))
      · cases hw
  · cases hw

/-- A number that stands for a block may be given ahead of all use. -/
theorem HR.extend (hh : HR NG B ρ h w) {x : Nat} {l : Loc} (hx : ρ x = none) (hxn : x < h.next) (hl : l.b < w.heap.size) : HR NG B (upd ρ x l) h w where
  dom := fun y ly hy => by
    by_cases e : y = x
    · subst e; rw [upd_same] at hy; cases hy; exact ⟨hxn, hl⟩
    · rw [upd_ne _ _ e] at hy; exact hh.dom y ly hy
  cells := fun y b hy => by
    obtain ⟨ly, h1, h2, h3, h4, h5⟩ := hh.cells y b hy
    refine ⟨ly, Ext.upd l hx _ _ h1, h2.mono (Ext.upd l hx), h3, h4, ?_⟩
    cases e2 : ρ b.fam with
    | none => exact absurd e2 h5
    | some l2 => rw [Ext.upd l hx _ _ e2]; simp
  iter := fun y s p hy => let ⟨ly, h1, h2⟩ := hh.iter y s p hy; ⟨ly, Ext.upd l hx _ _ h1, h2⟩
  sepC := fun y z bY bz ly lz hy hz hly hlz => by
    obtain ⟨l1, h1, _⟩ := hh.cells y bY hy
    obtain ⟨l2, h2, _⟩ := hh.cells z bz hz
    have e1 := Ext.upd l hx _ _ h1
    have e2 := Ext.upd l hx _ _ h2
    rw [hly] at e1; cases e1
    rw [hlz] at e2; cases e2
    exact hh.sepC y z bY bz ly lz hy hz h1 h2
  sepI := fun y z s p s' p' ly lz hy hz hly hlz => by
    obtain ⟨l1, h1, _⟩ := hh.iter y s p hy
    obtain ⟨l2, h2, _⟩ := hh.iter z s' p' hz
    have e1 := Ext.upd l hx _ _ h1
    have e2 := Ext.upd l hx _ _ h2
    rw [hly] at e1; cases e1
    rw [hlz] at e2; cases e2
    exact hh.sepI y z s p s' p' ly lz hy hz h1 h2
  glob := fun g hg => let ⟨lg, h1, h2⟩ := hh.glob g hg; ⟨lg, Ext.upd l hx _ _ h1, h2⟩
  next := hh.next
  room := hh.room

/-- A row that was made lives from now on. -/
theorem HR.live (hh : HR NG B ρ h w) {x g s : Nat} {n : New} {c : Array Value} {fr : Nat × Nat} (hx : ρ x = some ⟨g, 0, s, n.es, n.cells.length⟩) (hs : c.size = s) (hg : w.heap[g]? = some (.cells c n.elem fr)) (hfr : fr.1 = fr.2 ∨ c.size ≤ fr.1)
    (hc : LR ρ n.cells (c.toList.take n.cells.length)) (hsz : n.cells.length ≤ c.size) (hB : B ≤ g) (hno : ∀ z l, Alive h z → ρ z = some l → l.b ≠ g) :
    HR NG B ρ (h.lay x n) w := by
  have hget : ∀ z, (h.lay x n).get z = if z = x then some (.cells ⟨n.cells, n.elem, n.es, x, false⟩) else h.get z := fun z => by simp only [Heap.lay, Heap.get_setMembers, Heap.get_put]
  have hmem : ∀ f z, z ∈ h.members f → z ∈ (h.lay x n).members f := fun f z hz => by
    simp only [Heap.lay, Heap.members_set, Heap.members_put]
    split
    · rename_i e; subst e; exact List.mem_cons_of_mem _ hz
    · exact hz
  have hblk : BlkR ρ w ⟨g, 0, s, n.es, n.cells.length⟩ ⟨n.cells, n.elem, n.es, x, false⟩ := by
    refine ⟨⟨c, fr, hg, hs, fun _ => by rw [← hs]; exact hfr, fun i v hv => ?_⟩, rfl, by simp, by simp only; omega, rfl⟩
    obtain ⟨y, hy1, hy2⟩ := hc.get hv
    refine ⟨y, ?_, hy2⟩
    rw [List.getElem?_take] at hy1
    split at hy1
    · simpa using hy1
    · cases hy1
  exact {
    dom := fun y ly hy => by simp only [Heap.lay, Heap.next_setMembers, Heap.next_put]; exact hh.dom y ly hy
    cells := fun y b hy => by
      rw [hget] at hy
      by_cases e : y = x
      · subst e
        simp only [if_true, Option.some.injEq, AO.cells.injEq] at hy
        subst hy
        exact ⟨_, hx, hblk, fun _ => hB, by simp [Heap.lay, Heap.members_set], by simp [hx]⟩
      · rw [if_neg e] at hy
        obtain ⟨ly, h1, h2, h3, h4, h5⟩ := hh.cells y b hy
        exact ⟨ly, h1, h2, h3, hmem _ _ h4, h5⟩
    iter := fun y s p hy => by
      rw [hget] at hy
      by_cases e : y = x
      · subst e; simp at hy
      · rw [if_neg e] at hy; exact hh.iter y s p hy
    sepC := fun y z bY bz ly lz hy hz hly hlz heq => by
      rw [hget] at hy hz
      by_cases e : y = x
      · subst e
        simp only [if_true, Option.some.injEq, AO.cells.injEq] at hy
        rw [hx] at hly; cases hly
        by_cases e' : z = y
        · subst e'
          simp only [if_true, Option.some.injEq, AO.cells.injEq] at hz
          exact .inl (by rw [← hy, ← hz])
        · rw [if_neg e'] at hz
          exact absurd heq.symm (hno z lz (.inl ⟨bz, hz⟩) hlz)
      · rw [if_neg e] at hy
        by_cases e' : z = x
        · subst e'
          rw [hx] at hlz; cases hlz
          exact absurd heq (hno y ly (.inl ⟨bY, hy⟩) hly)
        · rw [if_neg e'] at hz
          exact hh.sepC y z bY bz ly lz hy hz hly hlz heq
    sepI := fun y z s p s' p' ly lz hy hz hly hlz heq => by
      rw [hget] at hy hz
      by_cases e : y = x
      · subst e; simp at hy
      · rw [if_neg e] at hy
        by_cases e' : z = x
        · subst e'; simp at hz
        · rw [if_neg e'] at hz; exact hh.sepI y z s p s' p' ly lz hy hz hly hlz heq
    glob := hh.glob
    next := by simp only [Heap.lay, Heap.next_setMembers, Heap.next_put]; exact hh.next
    room := hh.room }

theorem New.vr {n : New} {ρ : Map} {x g s k : Nat} (hl : ρ x = some ⟨g, 0, s, n.es, k⟩) (hn : ∀ l, n.len = some l → l * n.es ≤ s) : VR ρ (n.at x) (n.at g) := by
  unfold New.at
  split
  · have := VR.ptr (ρ := ρ) x 0 _ hl
    simpa using this
  · rename_i l hl2
    exact .slice x 0 _ l l l ⟨g, 0, none⟩ hl (Nat.le_refl _) (Nat.le_refl _) (fun _ => ⟨by simp, by simpa using hn l hl2⟩) (.inl rfl)

theorem zeros_length (z : List Value) : ∀ n, (zeros z n).length = n * z.length := by
  intro n
  induction n with
  | zero => simp [zeros]
  | succ n ih => simp only [zeros, List.length_append, ih]; rw [Nat.succ_mul]; omega
theorem zeros_get (z : List Value) : ∀ n i, i < n * z.length → (zeros z n)[i]? = z[i % z.length]? := by
  intro n
  induction n with
  | zero => intro i hi; simp at hi
  | succ n ih =>
    intro i hi
    simp only [zeros]
    rw [Nat.succ_mul] at hi
    by_cases h1 : i < z.length
    · rw [List.getElem?_append_left h1, Nat.mod_eq_of_lt h1]
    · rw [List.getElem?_append_right (by omega), ih _ (by omega)]
      have := Nat.mod_eq_sub_mod (a := i) (b := z.length) (by omega)
      rw [this]
theorem zeros_eq (z : Array Value) (n s : Nat) (hs : z.size = s) (h0 : s ≠ 0) : ((Array.range (n * s)).map fun i => z[i % z.size]!) = (zeros z.toList n).toArray := by
  apply Array.ext'
  apply List.ext_getElem?
  intro i
  have hzl : z.toList.length = s := by simpa using hs
  by_cases hi : i < n * s
  · simp only [Array.toList_map, Array.toList_range, List.getElem?_map]
    rw [List.getElem?_range hi, zeros_get _ _ _ (by rw [hzl]; exact hi), hzl]
    have hm : i % s < z.size := by rw [hs]; exact Nat.mod_lt _ (Nat.pos_of_ne_zero h0)
    simp only [Option.map_some, hs]
    rw [getElem!_pos z (i % s) hm, Array.getElem?_toList, Array.getElem?_eq_getElem hm]
  · rw [List.getElem?_eq_none (by simp; omega), List.getElem?_eq_none (by simp [zeros_length, hs]; omega)]

theorem fillL_length {place : Nat → Option (Nat × Nat)} : ∀ (parts : List (Nat × Value)) {cells r : List Value} (_ : fillL place cells parts = some r), r.length = cells.length := by
  intro parts
  induction parts with
  | nil => intro cells r h; simp only [fillL, Option.some.injEq] at h; subst h; rfl
  | cons a l ih =>
    intro cells r h
    obtain ⟨i, v⟩ := a
    simp only [fillL] at h
    split at h
    · cases h
    · split at h
      · cases h
      · split at h
        · rename_i hov
          rw [ih h, (over_get _ _ _ _ hov).1]
        · cases h

theorem fresh_sound {o : Oper} {ev cev : Operand → Value} {n : New} (hf : fresh P o ev = some n) (hv : ∀ x, x ∈ o.op.operands → VR ρ (ev x) (cev x)) :
    ∃ c : List Value, (execOp cev o).run P w = .ok (.value (n.at w.heap.size)) { w with heap := w.heap.push (.cells c.toArray n.elem) } ∧ LR ρ n.cells c ∧ ∀ l, n.len = some l → l * n.es ≤ c.length := by
  have hnew : ∀ {t : TypeId} {v v' : Value} {n : New}, newV P t v = some n → VR ρ v v' → (Go.newVar t v').run P w = .ok ⟨w.heap.size, 0, none⟩ { w with heap := w.heap.push (.cells v'.cells.toList.toArray n.elem) } ∧ LR ρ n.cells v'.cells.toList ∧ n.len = none := by
    intro t v v' n hn hvv
    unfold newV at hn
    split at hn
    · split at hn
      · cases hn
        exact ⟨by simp [Go.newVar, newRow], hvv.cells, rfl⟩
      · cases hn
    · cases hn
  unfold fresh at hf
  split at hf
  · rename_i e ho
    simp only [Option.bind_eq_some_iff] at hf
    obtain ⟨z, hz, hn⟩ := hf
    obtain ⟨_, hcl⟩ := zeroOf_eq hz
    obtain ⟨h1, h2, h3⟩ := hnew hn (VR.closed (ρ := ρ) hcl)
    refine ⟨z.cells.toList, ?_, h2, fun l hl => by rw [h3] at hl; cases hl⟩
    have e1 : n.at w.heap.size = .pointer (some ⟨w.heap.size, 0, none⟩) := by unfold New.at; rw [h3]
    rw [e1]
    simp only [execOp, ho, Instr.alloc, Sem.run_bind, run_zero hz, Result.andThen_ok, h1]
    rfl
  · rename_i e x ho
    obtain ⟨h1, h2, h3⟩ := hnew hf (hv x (by simp [ho, Op.operands]))
    refine ⟨(cev x).cells.toList, ?_, h2, fun l hl => by rw [h3] at hl; cases hl⟩
    have e1 : n.at w.heap.size = .pointer (some ⟨w.heap.size, 0, none⟩) := by unfold New.at; rw [h3]
    rw [e1]
    simp only [execOp, ho, Instr.box, Sem.run_bind, h1, Result.andThen_ok]
    rfl
  · rename_i t len parts ho
    unfold buildSliceV at hf
    split at hf
    · rename_i e hu
      split at hf
      · rename_i s z hs hz
        split at hf
        · cases hf
        · rename_i hc
          simp only [not_or, ne_eq, Decidable.not_not, Nat.not_lt] at hc
          split at hf
          · rename_i cells hfill
            cases hf
            obtain ⟨_, hcl⟩ := zeroOf_eq hz
            have hzl : LR ρ (zeros z.cells.toList len) (zeros z.cells.toList len) := by
              have hz0 : LR ρ z.cells.toList z.cells.toList := VR.cells (VR.closed (ρ := ρ) hcl)
              clear hfill ho hc
              induction len with
              | zero => exact .nil _
              | succ m ih => exact hz0.append ih
            obtain ⟨r', h1, h2⟩ := fill_sound (fun a : Nat × Operand => ev a.2) (fun a => cev a.2) (fun a => a.1) parts.toList (fun a ha => hv a.2 (by
              rw [ho]
              simp only [Op.operands, List.mem_toArray, List.mem_map]
              exact ⟨a, ha, rfl⟩)) hzl hfill
            refine ⟨r', ?_, h2, fun l hl => ?_⟩
            · simp only [execOp, ho, Instr.buildSlice, Sem.run_bind, run_und hu, run_size hs, Result.andThen_ok, Sem.run_ite]
              rw [if_neg (by omega)]
              have hrng : ((Array.range (len * s)).map fun i => (if len * s = 0 then #[] else z.cells)[i % (if len * s = 0 then #[] else z.cells).size]!) = (zeros z.cells.toList len).toArray := by
                split
                · rename_i h0
                  have : len = 0 := by
                    rcases Nat.mul_eq_zero.1 h0 with h | h
                    · exact h
                    · exact absurd h hc.1
                  subst this
                  simp [zeros]
                · exact zeros_eq z.cells len s hc.2.1 hc.1
              have e1 : (Array.map (fun x : Nat × Operand => (x.fst, cev x.snd)) parts).toList = parts.toList.map fun a => (a.1, cev a.2) := by simp
              by_cases h0 : len * s = 0
              · rw [if_pos h0]
                simp only [h0, if_true] at hrng
                simp only [Sem.run_pure, Result.andThen_ok, h0, hrng, e1, h1]
                rfl
              · rw [if_neg h0]
                simp only [h0, if_false] at hrng
                simp only [run_zero hz, Sem.run_pure, Result.andThen_ok, hrng, e1, h1]
                rfl
            · cases hl
              have := h2.1
              rw [← this, fillL_length _ hfill, zeros_length]
              simp only [Array.length_toList]
              rw [hc.2.1]
              exact Nat.le_refl _
          · cases hf
      · cases hf
    · cases hf
  · cases hf
end
end Go.AX
