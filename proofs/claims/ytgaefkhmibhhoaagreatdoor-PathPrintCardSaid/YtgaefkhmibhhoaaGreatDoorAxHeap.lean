/- A part of the proof that rubriclaw22.PathPrint returns true for every path. -/
import Derived.Test.YtgaefkhmibhhoaaGreatDoorAxRel
import Derived.Laws.Cells
import Derived.Laws.World
set_option linter.unusedSimpArgs false
set_option linter.unusedVariables false
namespace Go.AX
open Go

structure BlkR (ρ : Map) (w : World) (l : Loc) (b : Blk) : Prop where
  ex : ∃ (c : Array Value) (fr : Nat × Nat), w.heap[l.b]? = some (.cells c b.elem fr) ∧ c.size = l.size ∧ (b.ro = false → fr.1 = fr.2 ∨ l.size ≤ fr.1) ∧
       ∀ (i : Nat) (v : Value), b.cells[i]? = some v → ∃ v', c[l.base + i]? = some v' ∧ VR ρ v v'
  es : l.es = b.es
  div : l.base % b.es = 0
  bound : l.base + b.cells.length ≤ l.size
  len : l.len = b.cells.length

structure HR (NG B : Nat) (ρ : Map) (h : Heap) (w : World) : Prop where
  dom : ∀ x l, ρ x = some l → x < h.next ∧ l.b < w.heap.size
  cells : ∀ x b, h.get x = some (.cells b) → ∃ l, ρ x = some l ∧ BlkR ρ w l b ∧ (b.ro = false → B ≤ l.b) ∧ x ∈ h.members b.fam ∧ ρ b.fam ≠ none
  iter : ∀ x s p, h.get x = some (.iter s p) → ∃ l, ρ x = some l ∧ w.heap[l.b]? = some (.stringIter s p) ∧ l.base = 0 ∧ B ≤ l.b
  sepC : ∀ x y bx bY lx ly, h.get x = some (.cells bx) → h.get y = some (.cells bY) → ρ x = some lx → ρ y = some ly → lx.b = ly.b → bx.fam = bY.fam ∨ (bx.ro = true ∧ bY.ro = true)
  sepI : ∀ x y s p s' p' lx ly, h.get x = some (.iter s p) → h.get y = some (.iter s' p') → ρ x = some lx → ρ y = some ly → lx.b = ly.b → x = y
  glob : ∀ g, g < NG → ∃ l, ρ g = some l ∧ l.b = g ∧ l.base = 0
  next : NG ≤ h.next
  room : B ≤ w.heap.size

def Alive (h : Heap) (x : Nat) : Prop := (∃ b, h.get x = some (.cells b)) ∨ ∃ s p, h.get x = some (.iter s p)
/-- One that may be written to. -/
def Wr (h : Heap) (x : Nat) : Prop := (∃ b, h.get x = some (.cells b) ∧ b.ro = false) ∨ ∃ s p, h.get x = some (.iter s p)
theorem Wr.alive {h : Heap} {x : Nat} (hx : Wr h x) : Alive h x := hx.imp (fun ⟨b, hb, _⟩ => ⟨b, hb⟩) id

/-- From one state to a later one. 'n': from which number on the new ones are. -/
structure Step (n : Nat) (ρ : Map) (h : Heap) (w : World) (ρ' : Map) (h' : Heap) (w' : World) : Prop where
  ext : Ext ρ ρ'
  new : ∀ x, ρ x = none → ρ' x ≠ none → n ≤ x
  next : h.next ≤ h'.next
  alive : ∀ x l, Alive h' x → ρ' x = some l → w.heap.size ≤ l.b ∨ ∃ y l0, Alive h y ∧ ρ y = some l0 ∧ l0.b = l.b
  wr : ∀ x l, Wr h' x → ρ' x = some l → w.heap.size ≤ l.b ∨ ∃ y l0, Wr h y ∧ ρ y = some l0 ∧ l0.b = l.b
  os : w'.os = w.os
  tape : w'.tape = w.tape
  output : w'.output = w.output
  size : w.heap.size ≤ w'.heap.size
  keep : ∀ b, b < w.heap.size → (∀ x l, Wr h x → ρ x = some l → l.b ≠ b) → w'.heap[b]? = w.heap[b]?

/-- Nothing new is told of. -/
theorem Step.same {n : Nat} {ρ : Map} {h h' : Heap} {w w' : World} (hn : h.next ≤ h'.next) (ha : ∀ z, (Alive h' z → Alive h z) ∧ (Wr h' z → Wr h z)) (h1 : w'.os = w.os) (h2 : w'.tape = w.tape) (h3 : w'.output = w.output) (hs : w.heap.size ≤ w'.heap.size)
    (hk : ∀ b, b < w.heap.size → (∀ x l, Wr h x → ρ x = some l → l.b ≠ b) → w'.heap[b]? = w.heap[b]?) : Step n ρ h w ρ h' w' :=
  ⟨.refl _, fun _ h h' => absurd h h', hn, fun x l hx hl => .inr ⟨x, l, (ha x).1 hx, hl, rfl⟩, fun x l hx hl => .inr ⟨x, l, (ha x).2 hx, hl, rfl⟩, h1, h2, h3, hs, hk⟩
theorem Step.refl (n : Nat) (ρ : Map) (h : Heap) (w : World) : Step n ρ h w ρ h w := .same (Nat.le_refl _) (fun _ => ⟨id, id⟩) rfl rfl rfl (Nat.le_refl _) (fun _ _ _ => rfl)
theorem Step.weaken {n m : Nat} {ρ ρ' : Map} {h h' : Heap} {w w' : World} (hs : Step n ρ h w ρ' h' w') (hm : m ≤ n) : Step m ρ h w ρ' h' w' :=
  { hs with new := fun x hx hx' => Nat.le_trans hm (hs.new x hx hx') }
theorem Step.trans {n : Nat} {ρ ρ' ρ'' : Map} {h h' h'' : Heap} {w w' w'' : World} (s : Step n ρ h w ρ' h' w') (k : Step n ρ' h' w' ρ'' h'' w'') : Step n ρ h w ρ'' h'' w'' where
  ext := s.ext.trans k.ext
  new := fun x hx hx'' => by
    by_cases e : ρ' x = none
    · exact k.new x e hx''
    · exact s.new x hx e
  next := Nat.le_trans s.next k.next
  alive := fun x l hx hl => by
    rcases k.alive x l hx hl with h1 | ⟨y, l0, hy, hly, e⟩
    · exact .inl (Nat.le_trans s.size h1)
    · rcases s.alive y l0 hy hly with h1 | ⟨z, l1, hz, hlz, e2⟩
      · exact .inl (e ▸ h1)
      · exact .inr ⟨z, l1, hz, hlz, e2.trans e⟩
  wr := fun x l hx hl => by
    rcases k.wr x l hx hl with h1 | ⟨y, l0, hy, hly, e⟩
    · exact .inl (Nat.le_trans s.size h1)
    · rcases s.wr y l0 hy hly with h1 | ⟨z, l1, hz, hlz, e2⟩
      · exact .inl (e ▸ h1)
      · exact .inr ⟨z, l1, hz, hlz, e2.trans e⟩
  os := k.os.trans s.os
  tape := k.tape.trans s.tape
  output := k.output.trans s.output
  size := Nat.le_trans s.size k.size
  keep := fun b hb hno => by
    rw [k.keep b (Nat.lt_of_lt_of_le hb s.size), s.keep b hb hno]
    intro x l hx hl e
    rcases s.wr x l hx hl with h1 | ⟨z, l1, hz, hlz, e2⟩
    · omega
    · exact hno z l1 hz hlz (e2.trans e)
/-- One behind the other, each with the numbers that are new to it. -/
theorem Step.seq {ρ ρ' ρ'' : Map} {h h' h'' : Heap} {w w' w'' : World} (s : Step h.next ρ h w ρ' h' w') (k : Step h'.next ρ' h' w' ρ'' h'' w'') : Step h.next ρ h w ρ'' h'' w'' :=
  s.trans (k.weaken s.next)

def upd (ρ : Map) (y : Nat) (l : Loc) : Map := fun z => if z = y then some l else ρ z
theorem upd_same (ρ : Map) (y : Nat) (l : Loc) : upd ρ y l y = some l := by simp [upd]
theorem upd_ne (ρ : Map) {y z : Nat} (l : Loc) (h : z ≠ y) : upd ρ y l z = ρ z := by simp [upd, h]
theorem Ext.upd {ρ : Map} {y : Nat} (l : Loc) (h : ρ y = none) : Ext ρ (upd ρ y l) := fun x l' hx => by
  by_cases e : x = y
  · subst e; rw [h] at hx; cases hx
  · rw [upd_ne _ _ e]; exact hx

theorem BlkR.mono {ρ ρ' : Map} (he : Ext ρ ρ') {w : World} {l : Loc} {b : Blk} (h : BlkR ρ w l b) : BlkR ρ' w l b := by
  obtain ⟨⟨c, fr, h1, h2, h3, h4⟩, h5, h6, h7, h8⟩ := h
  exact ⟨⟨c, fr, h1, h2, h3, fun i v hv => let ⟨v', a, b⟩ := h4 i v hv; ⟨v', a, b.mono he⟩⟩, h5, h6, h7, h8⟩
theorem BlkR.world {ρ : Map} {w w' : World} {l : Loc} {b : Blk} (h : BlkR ρ w l b) (e : w'.heap[l.b]? = w.heap[l.b]?) : BlkR ρ w' l b := by
  obtain ⟨⟨c, fr, h1, h2⟩, h5, h6, h7, h8⟩ := h
  exact ⟨⟨c, fr, e.trans h1, h2⟩, h5, h6, h7, h8⟩
theorem BlkR.heap_lt {ρ : Map} {w : World} {l : Loc} {b : Blk} (h : BlkR ρ w l b) : l.b < w.heap.size := by
  obtain ⟨⟨c, fr, h1, _⟩, _⟩ := h
  exact (Array.getElem?_eq_some_iff.1 h1).1

section
variable {NG B : Nat} {ρ : Map} {h h' : Heap} {w w' : World}

/-- The world alone has turned, and nothing that stands for something. -/
theorem HR.world (hh : HR NG B ρ h w) (hs : w.heap.size ≤ w'.heap.size) (he : ∀ x l, ρ x = some l → w'.heap[l.b]? = w.heap[l.b]?) : HR NG B ρ h w' where
  dom := fun x l hx => ⟨(hh.dom x l hx).1, Nat.lt_of_lt_of_le (hh.dom x l hx).2 hs⟩
  cells := fun x b hb => let ⟨l, h1, h2, h3⟩ := hh.cells x b hb; ⟨l, h1, h2.world (he x l h1), h3⟩
  iter := fun x s p hb => let ⟨l, h1, h2, h3⟩ := hh.iter x s p hb; ⟨l, h1, (he x l h1).trans h2, h3⟩
  sepC := hh.sepC
  sepI := hh.sepI
  glob := hh.glob
  next := hh.next
  room := Nat.le_trans hh.room hs
theorem HR.drawn (hh : HR NG B ρ h w) (n : Nat) : HR NG B ρ h { w with drawn := n } := hh.world (Nat.le_refl _) fun _ _ _ => rfl
theorem HR.alloc (hh : HR NG B ρ h w) (o : Obj) : HR NG B ρ h { w with heap := w.heap.push o } :=
  hh.world (by simp) fun x l hx => by
    have := (hh.dom x l hx).2
    simp only [Array.getElem?_push]; rw [if_neg (by omega)]

/-- Some are let go; more numbers are kept back. -/
theorem HR.weaken (hh : HR NG B ρ h w) (hn : h.next ≤ h'.next) (hg : ∀ z o, h'.get z = some o → h.get z = some o ∨ o = .dead)
    (hm : ∀ z b, h'.get z = some (.cells b) → z ∈ h.members b.fam → z ∈ h'.members b.fam) : HR NG B ρ h' w where
  dom := fun x l hx => ⟨Nat.lt_of_lt_of_le (hh.dom x l hx).1 hn, (hh.dom x l hx).2⟩
  cells := fun x b hb => by
    rcases hg x _ hb with h1 | h1
    · obtain ⟨l, h2, h3, h4, h5, h6⟩ := hh.cells x b h1
      exact ⟨l, h2, h3, h4, hm x b hb h5, h6⟩
    · cases h1
  iter := fun x s p hb => by
    rcases hg x _ hb with h1 | h1
    · exact hh.iter x s p h1
    · cases h1
  sepC := fun x y bx bY lx ly h1 h2 => by
    rcases hg x _ h1 with h1 | h1
    · rcases hg y _ h2 with h2 | h2
      · exact hh.sepC x y bx bY lx ly h1 h2
      · cases h2
    · cases h1
  sepI := fun x y s p s' p' lx ly h1 h2 => by
    rcases hg x _ h1 with h1 | h1
    · rcases hg y _ h2 with h2 | h2
      · exact hh.sepI x y s p s' p' lx ly h1 h2
      · cases h2
    · cases h1
  glob := hh.glob
  next := Nat.le_trans hh.next hn
  room := hh.room

theorem HR.only (hh : HR NG B ρ h w) (f x : Nat) : HR NG B ρ (h.only f x) w := by
  refine hh.weaken (by rw [Heap.next_only]; exact Nat.le_refl _) (fun z o hz => ?_) (fun z b hz hm => ?_)
  · rw [Heap.get_only] at hz
    split at hz
    · cases hz; exact .inr rfl
    · exact .inl hz
  · rw [Heap.get_only] at hz
    split at hz
    · cases hz
    · rename_i hn; exact Heap.members_only _ _ _ _ _ hm hn

/-- One row more stands for cells that are there, and for which nothing stood but of its own family. -/
theorem HR.add (hh : HR NG B ρ h w) {y : Nat} {l : Loc} {b : Blk} (hy : ρ y = none) (hn : h.next ≤ h'.next) (hyn : y < h'.next)
    (hget : ∀ z, h'.get z = if z = y then some (.cells b) else h.get z)
    (hmem : ∀ z bz, h.get z = some (.cells bz) → z ∈ h.members bz.fam → z ∈ h'.members bz.fam)
    (hmy : y ∈ h'.members b.fam) (hfam : b.fam = y ∨ ρ b.fam ≠ none) (hb : BlkR ρ w l b) (hB : b.ro = false → B ≤ l.b)
    (hsep : ∀ z bz lz, h.get z = some (.cells bz) → ρ z = some lz → lz.b = l.b → bz.fam = b.fam) : HR NG B (upd ρ y l) h' w where
  dom := fun x lx hx => by
    by_cases e : x = y
    · subst e; rw [upd_same] at hx; cases hx; exact ⟨hyn, hb.heap_lt⟩
    · rw [upd_ne _ _ e] at hx; exact ⟨Nat.lt_of_lt_of_le (hh.dom x lx hx).1 hn, (hh.dom x lx hx).2⟩
  cells := fun x bx hx => by
    rw [hget] at hx
    by_cases e : x = y
    · subst e
      simp only [if_true, Option.some.injEq, AO.cells.injEq] at hx
      subst hx
      refine ⟨l, upd_same _ _ _, hb.mono (Ext.upd l hy), hB, hmy, ?_⟩
      rcases hfam with h1 | h1
      · rw [h1, upd_same]; simp
      · cases e2 : ρ b.fam with
        | none => exact absurd e2 h1
        | some l2 => rw [Ext.upd l hy _ _ e2]; simp
    · rw [if_neg e] at hx
      obtain ⟨lx, h1, h2, h3, h4, h5⟩ := hh.cells x bx hx
      refine ⟨lx, Ext.upd l hy _ _ h1, h2.mono (Ext.upd l hy), h3, hmem x bx hx h4, ?_⟩
      cases e2 : ρ bx.fam with
      | none => exact absurd e2 h5
      | some l2 => rw [Ext.upd l hy _ _ e2]; simp
  iter := fun x s p hx => by
    rw [hget] at hx
    by_cases e : x = y
    · subst e; simp at hx
    · rw [if_neg e] at hx
      obtain ⟨lx, h1, h2⟩ := hh.iter x s p hx
      exact ⟨lx, Ext.upd l hy _ _ h1, h2⟩
  sepC := fun x z bx bz lx lz hx hz hlx hlz heq => by
    rw [hget] at hx hz
    by_cases e : x = y
    · subst e
      simp only [if_true, Option.some.injEq, AO.cells.injEq] at hx
      rw [upd_same] at hlx; cases hlx; subst hx
      by_cases e' : z = x
      · subst e'
        simp only [if_true, Option.some.injEq, AO.cells.injEq] at hz
        exact .inl (hz ▸ rfl)
      · rw [if_neg e'] at hz; rw [upd_ne _ _ e'] at hlz
        exact .inl (hsep z bz lz hz hlz heq.symm).symm
    · rw [if_neg e] at hx; rw [upd_ne _ _ e] at hlx
      by_cases e' : z = y
      · subst e'
        simp only [if_true, Option.some.injEq, AO.cells.injEq] at hz
        rw [upd_same] at hlz; cases hlz; subst hz
        exact .inl (hsep x bx lx hx hlx heq)
      · rw [if_neg e'] at hz; rw [upd_ne _ _ e'] at hlz
        exact hh.sepC x z bx bz lx lz hx hz hlx hlz heq
  sepI := fun x z s p s' p' lx lz hx hz hlx hlz heq => by
    rw [hget] at hx hz
    by_cases e : x = y
    · subst e; simp at hx
    · rw [if_neg e] at hx; rw [upd_ne _ _ e] at hlx
      by_cases e' : z = y
      · subst e'; simp at hz
      · rw [if_neg e'] at hz; rw [upd_ne _ _ e'] at hlz
        exact hh.sepI x z s p s' p' lx lz hx hz hlx hlz heq
  glob := fun g hg => let ⟨lg, h1, h2⟩ := hh.glob g hg; ⟨lg, Ext.upd l hy _ _ h1, h2⟩
  next := Nat.le_trans hh.next hn
  room := hh.room

/-- A new iterator. -/
theorem HR.addIter (hh : HR NG B ρ h w) {y : Nat} {l : Loc} {s : ByteArray} {p : Nat} (hy : ρ y = none) (hn : h.next ≤ h'.next) (hyn : y < h'.next)
    (hget : ∀ z, h'.get z = if z = y then some (.iter s p) else h.get z) (hm : ∀ f, h'.members f = h.members f)
    (hb : w.heap[l.b]? = some (.stringIter s p)) (h0 : l.base = 0) (hB : B ≤ l.b) (hno : ∀ x lx, ρ x = some lx → lx.b ≠ l.b) : HR NG B (upd ρ y l) h' w where
  dom := fun x lx hx => by
    by_cases e : x = y
    · subst e; rw [upd_same] at hx; cases hx; exact ⟨hyn, (Array.getElem?_eq_some_iff.1 hb).1⟩
    · rw [upd_ne _ _ e] at hx; exact ⟨Nat.lt_of_lt_of_le (hh.dom x lx hx).1 hn, (hh.dom x lx hx).2⟩
  cells := fun x bx hx => by
    rw [hget] at hx
    by_cases e : x = y
    · subst e; simp at hx
    · rw [if_neg e] at hx
      obtain ⟨lx, h1, h2, h3, h4, h5⟩ := hh.cells x bx hx
      refine ⟨lx, Ext.upd l hy _ _ h1, h2.mono (Ext.upd l hy), h3, by rw [hm]; exact h4, ?_⟩
      cases e2 : ρ bx.fam with
      | none => exact absurd e2 h5
      | some l2 => rw [Ext.upd l hy _ _ e2]; simp
  iter := fun x s' p' hx => by
    rw [hget] at hx
    by_cases e : x = y
    · subst e
      simp only [if_true, Option.some.injEq, AO.iter.injEq] at hx
      obtain ⟨rfl, rfl⟩ := hx
      exact ⟨l, upd_same _ _ _, hb, h0, hB⟩
    · rw [if_neg e] at hx
      obtain ⟨lx, h1, h2⟩ := hh.iter x s' p' hx
      exact ⟨lx, Ext.upd l hy _ _ h1, h2⟩
  sepC := fun x z bx bz lx lz hx hz hlx hlz heq => by
    rw [hget] at hx hz
    by_cases e : x = y
    · subst e; simp at hx
    · rw [if_neg e] at hx; rw [upd_ne _ _ e] at hlx
      by_cases e' : z = y
      · subst e'; simp at hz
      · rw [if_neg e'] at hz; rw [upd_ne _ _ e'] at hlz
        exact hh.sepC x z bx bz lx lz hx hz hlx hlz heq
  sepI := fun x z s p s' p' lx lz hx hz hlx hlz heq => by
    rw [hget] at hx hz
    by_cases e : x = y
    · subst e
      rw [upd_same] at hlx; cases hlx
      by_cases e' : z = x
      · exact e'.symm
      · rw [upd_ne _ _ e'] at hlz; exact absurd heq.symm (hno z lz hlz)
    · rw [if_neg e] at hx; rw [upd_ne _ _ e] at hlx
      by_cases e' : z = y
      · subst e'; rw [upd_same] at hlz; cases hlz; exact absurd heq (hno x lx hlx)
      · rw [if_neg e'] at hz; rw [upd_ne _ _ e'] at hlz
        exact hh.sepI x z s p s' p' lx lz hx hz hlx hlz heq
  glob := fun g hg => let ⟨lg, h1, h2⟩ := hh.glob g hg; ⟨lg, Ext.upd l hy _ _ h1, h2⟩
  next := Nat.le_trans hh.next hn
  room := hh.room

/-- A block's object, another one. -/
def setBlk (w : World) (g : Nat) (o : Obj) : World := { w with heap := w.heap.setIfInBounds g o }
theorem setBlk_same (w : World) (g : Nat) (o : Obj) (hg : g < w.heap.size) : (setBlk w g o).heap[g]? = some o := by
  simp [setBlk, hg]
theorem setBlk_ne (w : World) (g k : Nat) (o : Obj) (hg : k ≠ g) : (setBlk w g o).heap[k]? = w.heap[k]? := by
  simp only [setBlk]; rw [Array.getElem?_setIfInBounds_ne (by omega)]
theorem setBlk_size (w : World) (g : Nat) (o : Obj) : (setBlk w g o).heap.size = w.heap.size := by simp [setBlk]

/-- The one row of its family that lives holds other cells now, in the world too. -/
theorem HR.setCells (hh : HR NG B ρ h w) {x : Nat} {b b' : Blk} {l : Loc} {c : Array Value} {fr : Nat × Nat} (hx : h.get x = some (.cells b)) (hl : ρ x = some l)
    (halone : ∀ z bz, h.get z = some (.cells bz) → bz.fam = b.fam → z = x) (hro : b.ro = false)
    (hf : b'.fam = b.fam) (hb' : BlkR ρ (setBlk w l.b (.cells c b'.elem fr)) l b') 
    (hn : h'.next = h.next) (hget : ∀ z, h'.get z = if z = x then some (.cells b') else h.get z) (hm : ∀ f, h'.members f = h.members f) :
    HR NG B ρ h' (setBlk w l.b (.cells c b'.elem fr)) := by
  have hlb : l.b < w.heap.size := (hh.dom x l hl).2
  have hother : ∀ z bz lz, z ≠ x → h.get z = some (.cells bz) → ρ z = some lz → lz.b ≠ l.b := by
    intro z bz lz hzx hz hlz e
    rcases hh.sepC z x bz b lz l hz hx hlz hl e with h1 | h1
    · exact hzx (halone z bz hz h1)
    · rw [hro] at h1; cases h1.2
  obtain ⟨l0, hl0, hb0, hB0, hm0, hf0⟩ := hh.cells x b hx
  rw [hl] at hl0; cases hl0
  have hiter : ∀ z s p lz, h.get z = some (.iter s p) → ρ z = some lz → lz.b ≠ l.b := by
    intro z s p lz hz hlz e
    obtain ⟨lz', h1, h2, _⟩ := hh.iter z s p hz
    rw [hlz] at h1; cases h1
    obtain ⟨c0, fr0, h3, _⟩ := hb0.ex
    rw [e, h3] at h2; cases h2
  exact {
    dom := fun z lz hz => by rw [hn, setBlk_size]; exact hh.dom z lz hz
    cells := fun z bz hz => by
      rw [hget] at hz
      by_cases e : z = x
      · subst e
        simp only [if_true, Option.some.injEq, AO.cells.injEq] at hz
        subst hz
        exact ⟨l, hl, hb', fun _ => hB0 hro, by rw [hm, hf]; exact hm0, by rw [hf]; exact hf0⟩
      · rw [if_neg e] at hz
        obtain ⟨lz, h1, h2, h3, h4, h5⟩ := hh.cells z bz hz
        exact ⟨lz, h1, h2.world (setBlk_ne _ _ _ _ (hother z bz lz e hz h1)), h3, by rw [hm]; exact h4, h5⟩
    iter := fun z s p hz => by
      rw [hget] at hz
      by_cases e : z = x
      · subst e; simp at hz
      · rw [if_neg e] at hz
        obtain ⟨lz, h1, h2, h3⟩ := hh.iter z s p hz
        exact ⟨lz, h1, by rw [setBlk_ne _ _ _ _ (hiter z s p lz hz h1)]; exact h2, h3⟩
    sepC := fun y z bY bz ly lz hy hz hly hlz heq => by
      rw [hget] at hy hz
      by_cases e : y = x
      · subst e
        simp only [if_true, Option.some.injEq, AO.cells.injEq] at hy
        rw [hl] at hly; cases hly; subst hy
        by_cases e' : z = y
        · subst e'
          simp only [if_true, Option.some.injEq, AO.cells.injEq] at hz
          exact .inl (hz ▸ rfl)
        · rw [if_neg e'] at hz
          exact absurd heq.symm (hother z bz lz e' hz hlz)
      · rw [if_neg e] at hy
        by_cases e' : z = x
        · subst e'
          rw [hl] at hlz; cases hlz
          exact absurd heq (hother y bY ly e hy hly)
        · rw [if_neg e'] at hz
          exact hh.sepC y z bY bz ly lz hy hz hly hlz heq
    sepI := fun y z s p s' p' ly lz hy hz hly hlz heq => by
      rw [hget] at hy hz
      by_cases e : y = x
      · subst e; simp at hy
      · rw [if_neg e] at hy
        by_cases e' : z = x
        · subst e'; simp at hz
        · rw [if_neg e'] at hz; exact hh.sepI y z s p s' p' ly lz hy hz hly hlz heq
    glob := hh.glob
    next := by rw [hn]; exact hh.next
    room := by rw [setBlk_size]; exact hh.room }

/-- An iterator goes on. -/
theorem HR.setIter (hh : HR NG B ρ h w) {x : Nat} {s s' : ByteArray} {p p' : Nat} {l : Loc} (hx : h.get x = some (.iter s p)) (hl : ρ x = some l)
    (hn : h'.next = h.next) (hget : ∀ z, h'.get z = if z = x then some (.iter s' p') else h.get z) (hm : ∀ f, h'.members f = h.members f) :
    HR NG B ρ h' (setBlk w l.b (.stringIter s' p')) := by
  have hlb : l.b < w.heap.size := (hh.dom x l hl).2
  obtain ⟨l0, hl0, hb0, h00, hB0⟩ := hh.iter x s p hx
  rw [hl] at hl0; cases hl0
  have hcell : ∀ z bz lz, h.get z = some (.cells bz) → ρ z = some lz → lz.b ≠ l.b := by
    intro z bz lz hz hlz e
    obtain ⟨lz', h1, h2, _⟩ := hh.cells z bz hz
    rw [hlz] at h1; cases h1
    obtain ⟨c0, fr0, h3, _⟩ := h2.ex
    rw [e, hb0] at h3; cases h3
  have hother : ∀ z s1 p1 lz, z ≠ x → h.get z = some (.iter s1 p1) → ρ z = some lz → lz.b ≠ l.b := by
    intro z s1 p1 lz hzx hz hlz e
    exact hzx (hh.sepI z x s1 p1 s p lz l hz hx hlz hl e)
  exact {
    dom := fun z lz hz => by rw [hn, setBlk_size]; exact hh.dom z lz hz
    cells := fun z bz hz => by
      rw [hget] at hz
      by_cases e : z = x
      · subst e; simp at hz
      · rw [if_neg e] at hz
        obtain ⟨lz, h1, h2, h3, h4, h5⟩ := hh.cells z bz hz
        exact ⟨lz, h1, h2.world (setBlk_ne _ _ _ _ (hcell z bz lz hz h1)), h3, by rw [hm]; exact h4, h5⟩
    iter := fun z s1 p1 hz => by
      rw [hget] at hz
      by_cases e : z = x
      · subst e
        simp only [if_true, Option.some.injEq, AO.iter.injEq] at hz
        obtain ⟨rfl, rfl⟩ := hz
        exact ⟨l, hl, setBlk_same _ _ _ hlb, h00, hB0⟩
      · rw [if_neg e] at hz
        obtain ⟨lz, h1, h2, h3⟩ := hh.iter z s1 p1 hz
        exact ⟨lz, h1, by rw [setBlk_ne _ _ _ _ (hother z s1 p1 lz e hz h1)]; exact h2, h3⟩
    sepC := fun y z bY bz ly lz hy hz hly hlz heq => by
      rw [hget] at hy hz
      by_cases e : y = x
      · subst e; simp at hy
      · rw [if_neg e] at hy
        by_cases e' : z = x
        · subst e'; simp at hz
        · rw [if_neg e'] at hz; exact hh.sepC y z bY bz ly lz hy hz hly hlz heq
    sepI := fun y z s1 p1 s2 p2 ly lz hy hz hly hlz heq => by
      rw [hget] at hy hz
      by_cases e : y = x
      · by_cases e' : z = x
        · rw [e, e']
        · rw [if_neg e'] at hz
          subst e
          rw [hl] at hly; cases hly
          exact absurd heq.symm (hother z s2 p2 lz e' hz hlz)
      · rw [if_neg e] at hy
        by_cases e' : z = x
        · subst e'
          rw [hl] at hlz; cases hlz
          exact absurd heq (hother y s1 p1 ly e hy hly)
        · rw [if_neg e'] at hz; exact hh.sepI y z s1 p1 s2 p2 ly lz hy hz hly hlz heq
    glob := hh.glob
    next := by rw [hn]; exact hh.next
    room := by rw [setBlk_size]; exact hh.room }

theorem Step.setBlk_step {n x : Nat} {l : Loc} (hx : Wr h x) (hl : ρ x = some l) (o : Obj) (hn : h.next ≤ h'.next) (ha : ∀ z, (Alive h' z → Alive h z) ∧ (Wr h' z → Wr h z)) : Step n ρ h w ρ h' (setBlk w l.b o) :=
  .same hn ha rfl rfl rfl (by rw [setBlk_size]; exact Nat.le_refl _) (fun b _ hno => setBlk_ne _ _ _ _ (fun e => hno x l hx hl e.symm))
theorem Step.drawn (n : Nat) (ρ : Map) (h : Heap) (w : World) (d : Nat) : Step n ρ h w ρ h { w with drawn := d } := .same (Nat.le_refl _) (fun _ => ⟨id, id⟩) rfl rfl rfl (Nat.le_refl _) (fun _ _ _ => rfl)
/-- A number more stands for a block that is new, or for one that stood for one already. -/
theorem Step.upd {n y : Nat} {l : Loc} (hy : ρ y = none) (hn : n ≤ y) (hnn : h.next ≤ h'.next) (ha : ∀ z, (Alive h' z → z = y ∨ Alive h z) ∧ (Wr h' z → z = y ∨ Wr h z)) (hl : w.heap.size ≤ l.b ∨ ∃ z l0, Wr h z ∧ ρ z = some l0 ∧ l0.b = l.b) (hs : w.heap.size ≤ w'.heap.size)
    (h1 : w'.os = w.os) (h2 : w'.tape = w.tape) (h3 : w'.output = w.output) (hk : ∀ b, b < w.heap.size → (∀ x l, Wr h x → ρ x = some l → l.b ≠ b) → w'.heap[b]? = w.heap[b]?) :
    Step n ρ h w (upd ρ y l) h' w' where
  ext := .upd l hy
  new := fun x hx hx' => by
    by_cases e : x = y
    · omega
    · rw [upd_ne _ _ e] at hx'; exact absurd hx hx'
  next := hnn
  alive := fun x lx hx hlx => by
    by_cases e : x = y
    · subst e; rw [upd_same] at hlx; cases hlx; exact hl.imp id fun ⟨z, l0, q, r⟩ => ⟨z, l0, q.alive, r⟩
    · rw [upd_ne _ _ e] at hlx
      rcases (ha x).1 hx with h1 | h1
      · exact absurd h1 e
      · exact .inr ⟨x, lx, h1, hlx, rfl⟩
  wr := fun x lx hx hlx => by
    by_cases e : x = y
    · subst e; rw [upd_same] at hlx; cases hlx; exact hl
    · rw [upd_ne _ _ e] at hlx
      rcases (ha x).2 hx with h1 | h1
      · exact absurd h1 e
      · exact .inr ⟨x, lx, h1, hlx, rfl⟩
  os := h1
  tape := h2
  output := h3
  size := hs
  keep := hk
theorem alive_put {x : Nat} {o : AO} (hx : Wr h x) (z : Nat) : (Alive (h.put x o) z → Alive h z) ∧ (Wr (h.put x o) z → Wr h z) := by
  unfold Alive Wr
  rw [Heap.get_put]
  by_cases e : z = x
  · subst e; exact ⟨fun _ => hx.alive, fun _ => hx⟩
  · rw [if_neg e]; exact ⟨id, id⟩
theorem alive_only (f x z : Nat) : (Alive (h.only f x) z → Alive h z) ∧ (Wr (h.only f x) z → Wr h z) := by
  unfold Alive Wr
  rw [Heap.get_only]
  split
  · constructor
    · rintro (⟨b, hb⟩ | ⟨s, p, hb⟩) <;> cases hb
    · rintro (⟨b, hb, _⟩ | ⟨s, p, hb⟩) <;> cases hb
  · exact ⟨id, id⟩
theorem alive_get {y : Nat} {o : AO} (hg : ∀ z, h'.get z = if z = y then some o else h.get z) (z : Nat) : (Alive h' z → z = y ∨ Alive h z) ∧ (Wr h' z → z = y ∨ Wr h z) := by
  unfold Alive Wr
  rw [hg]
  by_cases e : z = y
  · exact ⟨fun _ => .inl e, fun _ => .inl e⟩
  · rw [if_neg e]; exact ⟨.inr, .inr⟩
theorem both_trans {A B C A' B' C' : Prop} (h : (A → B) ∧ (A' → B')) (k : (B → C) ∧ (B' → C')) : (A → C) ∧ (A' → C') := ⟨fun a => k.1 (h.1 a), fun a => k.2 (h.2 a)⟩
theorem both_or {A B C A' B' C' D : Prop} (h : (A → D ∨ B) ∧ (A' → D ∨ B')) (k : (B → C) ∧ (B' → C')) : (A → D ∨ C) ∧ (A' → D ∨ C') := ⟨fun a => (h.1 a).imp id k.1, fun a => (h.2 a).imp id k.2⟩
end
end Go.AX
