/- A part of the proof that rubriclaw22.PathPrint returns true for every path. -/
import Derived.Test.YtgaefkhmibhhoaaGreatDoorAxStore
import Derived.Laws.Append
import Derived.Laws.MakeOwn
set_option linter.unusedSimpArgs false
set_option linter.unusedVariables false
namespace Go.AX
open Go
section
variable {P : Program} {w : World} {NG B : Nat} {ρ : Map} {h : Heap}

def Res (NG B : Nat) (ρ : Map) (h : Heap) (w : World) (r : Result Value) (v : Value) (h' : Heap) : Prop :=
  ∃ v' w' ρ', r = .ok v' w' ∧ Step h.next ρ h w ρ' h' w' ∧ HR NG B ρ' h' w' ∧ VR ρ' v v'

theorem HR.none_next (hh : HR NG B ρ h w) {x : Nat} (hx : h.next ≤ x) : ρ x = none := by
  cases e : ρ x with
  | none => rfl
  | some l => have := (hh.dom x l e).1; omega

theorem row_sound (hh : HR NG B ρ h w) {n : New} {c : Array Value} {fr : Nat × Nat} {d : Nat} (hfr : fr.1 = fr.2 ∨ c.size ≤ fr.1) (hc : LR ρ n.cells (c.toList.take n.cells.length)) (hsz : n.cells.length ≤ c.size) :
    HR NG B (upd ρ h.next ⟨w.heap.size, 0, c.size, n.es, n.cells.length⟩) (h.row n.cells n.elem n.es).2 { w with heap := w.heap.push (.cells c n.elem fr), drawn := d } ∧
    Step h.next ρ h w (upd ρ h.next ⟨w.heap.size, 0, c.size, n.es, n.cells.length⟩) (h.row n.cells n.elem n.es).2 { w with heap := w.heap.push (.cells c n.elem fr), drawn := d } := by
  have hnone := hh.none_next (Nat.le_refl h.next)
  have h1 : HR NG B ρ { h with next := h.next + 1 } { w with heap := w.heap.push (.cells c n.elem fr), drawn := d } := by
    have h2 : HR NG B ρ h { w with heap := w.heap.push (.cells c n.elem fr), drawn := d } := hh.world (by simp) fun x l hx => by
      have := (hh.dom x l hx).2
      simp only [Array.getElem?_push]; rw [if_neg (by omega)]
    exact h2.weaken (by simp) (fun z o hz => .inl hz) (fun z b _ hm => hm)
  have hw : (w.heap.size : Nat) < ({ w with heap := w.heap.push (.cells c n.elem fr), drawn := d } : World).heap.size := by simp
  constructor
  · have h2 := (h1.extend (x := h.next) (l := ⟨w.heap.size, 0, c.size, n.es, n.cells.length⟩) hnone (by simp) hw).live (n := n) (c := c) (fr := fr) (upd_same _ _ _) rfl (by simp) hfr (hc.mono (Ext.upd _ hnone)) hsz hh.room (fun z l hz hl e => by
      have hzn : z ≠ h.next := by
        rintro rfl
        rcases hz with ⟨b, hb⟩ | ⟨s, p, hb⟩
        · obtain ⟨l2, h3, _⟩ := hh.cells h.next b hb; rw [hnone] at h3; cases h3
        · obtain ⟨l2, h3, _⟩ := hh.iter h.next s p hb; rw [hnone] at h3; cases h3
      rw [upd_ne _ _ hzn] at hl
      have := (hh.dom z l hl).2
      omega)
    refine h2.weaken (by simp [Heap.row, Heap.lay, Heap.next_setMembers, Heap.next_put, Heap.next_push]) (fun z o hz => .inl hz) (fun z b hz hm => ?_)
    have hz' : z ≠ h.next → h.get z = some (.cells b) := fun e => by
      simp only [Heap.row, Heap.get_setMembers, Heap.get_push] at hz
      rwa [if_neg e] at hz
    simp only [Heap.row, Heap.members_set, Heap.members_push]
    simp only [Heap.lay, Heap.members_set, Heap.members_put] at hm
    split
    · rename_i ef
      by_cases ez : z = h.next
      · simp [ez]
      · obtain ⟨_, _, _, _, _, hf⟩ := hh.cells z b (hz' ez)
        rw [ef] at hf
        exact absurd hnone hf
    · rename_i ef
      rw [if_neg ef] at hm
      exact hm
  · exact Step.upd hnone (Nat.le_refl _) (by simp only [Heap.row, Heap.next_setMembers, Heap.next_push]; omega) (fun z => alive_get (o := .cells ⟨n.cells, n.elem, n.es, h.next, false⟩) (fun z => by simp only [Heap.row, Heap.get_setMembers, Heap.get_push]) z) (.inl (Nat.le_refl _)) (by simp) rfl rfl rfl (fun b hb _ => by
      simp only [Array.getElem?_push]; rw [if_neg (by omega)])

theorem lenOf_sound {x x' : Value} {n : Nat} (hn : AX.lenOf x = some n) (hx : VR ρ x x') : (Builtin.lenOf x').run P w = .ok n w ∧ (∀ a l c, x = .slice a l c → n = l) := by
  unfold AX.lenOf at hn
  split at hn
  · cases hn; cases hx <;> exact ⟨rfl, by rintro _ _ _ ⟨⟩; rfl⟩
  · cases hn; cases hx; exact ⟨by rw [bl_length]; rfl, by rintro _ _ _ ⟨⟩⟩
  · cases hn

theorem firstOf_sound (hh : HR NG B ρ h w) {x x' : Value} {size n : Nat} {r : List Value} (hr : firstOf h size n x = some r) (hx : VR ρ x x') (hn : ∀ a l c, x = .slice a l c → n ≤ l) :
    ∃ r', (∀ d, (Builtin.firstCells size n x').run P { w with drawn := d } = .ok r'.toArray { w with drawn := d }) ∧ LR ρ r r' := by
  unfold firstOf at hr
  split at hr
  · rename_i a l c
    split at hr
    · cases hr
    · cases hx with
      | slice x o L _ _ cap' a' hl hcap hlen haddr =>
        obtain ⟨r', h1, h2, h3⟩ := read_sound hh hr hl
        refine ⟨r', ?_, h1⟩
        by_cases h0 : cap' = 0
        · have e0 : n = 0 := by have := hn _ _ _ rfl; omega
          subst e0
          have : r' = [] := by
            have e1 := h1.1
            rw [h2] at e1
            cases r' with
            | nil => rfl
            | cons a b => simp at e1
          subst this
          intro d; simp [Builtin.firstCells, loadCells, loadCellsFrom]
        · obtain ⟨ha, _⟩ := haddr h0
          subst ha
          intro d; exact run_loadCells_of (w := { w with drawn := d }) (h1.1.symm.trans h2) h3
  · split at hr
    · rename_i h0; cases hr; cases hx; subst h0; exact ⟨[], fun _ => rfl, .nil _⟩
    · cases hr
  · rename_i s
    cases hr
    cases hx
    refine ⟨((bl s).take n).map fun b => .int .u8 b.toNat, ?_, .of_map _ _ _ fun _ _ => .int _ _⟩
    · intro d
      simp only [Builtin.firstCells]
      have : (s.extract 0 n).data.toList = (bl s).take n := by
        have := string_extract (s := s) (l := 0) (n := n)
        simp only [List.drop_zero, Nat.zero_add] at this
        rw [← this]
      refine congrArg (Result.ok · { w with drawn := d }) ?_
      apply Array.ext'
      rw [Array.toList_map, this]
  · cases hr

theorem LR.oneCells {l l' : List Value} (hl : LR ρ l l') (h1 : l.all AX.oneCell = true) : ∀ v, v ∈ l' → v.oneCell' = true := by
  intro v hv
  obtain ⟨i, hi⟩ := List.getElem?_of_mem hv
  have hlt : i < l.length := by have := hl.1; have := (List.getElem?_eq_some_iff.1 hi).1; omega
  have := hl.2 i l[i] v (by simp [hlt]) hi
  rw [this.oneCell]
  exact List.all_eq_true.1 h1 _ (List.getElem_mem hlt)

/-- An append that makes a row: whatever its capacity. -/
theorem append_new (hh : HR NG B ρ h w) {e : TypeId} {cells cells' : List Value} {need newCap size : Nat} {z : Value} {d : Nat} (hc : LR ρ cells cells') (hlen : cells.length = need * size) (hcap : need ≤ newCap) (hz : z.cells.size = size) :
    let c := cells'.toArray ++ Builtin.zeroCells z.cells (newCap - need)
    let ρ' := upd ρ h.next ⟨w.heap.size, 0, c.size, size, cells.length⟩
    HR NG B ρ' (h.row cells e size).2 { w with heap := w.heap.push (.cells c e), drawn := d } ∧ Step h.next ρ h w ρ' (h.row cells e size).2 { w with heap := w.heap.push (.cells c e), drawn := d } ∧
    VR ρ' (.slice (some ⟨h.next, 0, none⟩) need need) (.slice (some ⟨w.heap.size, 0, none⟩) need newCap) := by
  intro c ρ'
  have hl' := hc.1
  have hcs : c.size = newCap * size := by
    simp only [c, Array.size_append, List.size_toArray, Builtin.zeroCells, Array.size_map, Array.size_range]
    rw [← hl', hlen, hz, ← Nat.add_mul]
    congr 1; omega
  obtain ⟨h1, h2⟩ := row_sound (n := ⟨cells, e, size, none⟩) (c := c) (fr := (0, 0)) (d := d) hh (.inl rfl) (by
    have : c.toList.take cells.length = cells' := by
      simp only [c, Array.toList_append]
      rw [List.take_append_of_le_length (by omega), List.take_of_length_le (by omega)]
    rw [this]; exact hc) (by rw [hcs, hlen]; exact Nat.mul_le_mul_right _ hcap)
  refine ⟨h1, h2, ?_⟩
  exact .slice h.next 0 _ need need newCap ⟨w.heap.size, 0, none⟩ (upd_same _ _ _) hcap hcap (fun _ => ⟨by simp, by dsimp only; omega⟩) (.inr (by dsimp only; omega))

theorem grow_inv {x o n y : Nat} {new : List Value} {h' : Heap} (hg : h.grow x o n new = some (y, h')) :
    ∃ b old, h.get x = some (.cells b) ∧ b.ro = false ∧ o % b.es = 0 ∧ o + n = b.cells.length ∧ takeN n (dropN o b.cells) = some old ∧ y = h.next ∧
      h'.next = h.next + 1 ∧ (∀ z, h'.get z = if z = h.next then some (.cells ⟨old ++ new, b.elem, b.es, b.fam, false⟩) else (h.only b.fam x).get z) ∧
      (∀ f, h'.members f = if f = b.fam then [x, h.next] else (h.only b.fam x).members f) := by
  unfold Heap.grow at hg
  split at hg
  · rename_i b hb
    split at hg
    · cases hg
    · rename_i hc
      simp only [Bool.or_eq_true, not_or, Bool.not_eq_true, bne_eq_false_iff_eq, Bool.not_eq_false'] at hc
      split at hg
      · rename_i old hold
        cases hg
        refine ⟨b, old, blk_some hb, hc.1.1, hc.1.2, Nat.eq_of_beq_eq_true hc.2, hold, Heap.next_only _ _ _, ?_, fun z => ?_, fun f => ?_⟩
        · rw [Heap.next_setMembers, Heap.next_push, Heap.next_only]
        · rw [Heap.get_setMembers, Heap.get_push, Heap.next_only]
        · rw [Heap.members_set, Heap.members_push, Heap.next_only]
      · cases hg
  · cases hg

theorem grow_add (hh : HR NG B ρ h w) {w1 : World} {x o n y : Nat} {new : List Value} {h' : Heap} (hg : h.grow x o n new = some (y, h')) {b : Blk} {old : List Value} (hb : h.get x = some (.cells b)) (hold : takeN n (dropN o b.cells) = some old)
    (h1 : HR NG B ρ (h.only b.fam x) w1) {l' : Loc} (hl' : BlkR ρ w1 l' ⟨old ++ new, b.elem, b.es, b.fam, false⟩) (hB : B ≤ l'.b)
    (hsep : ∀ z bz lz, h.get z = some (.cells bz) → ρ z = some lz → lz.b = l'.b → bz.fam = b.fam) : HR NG B (upd ρ y l') h' w1 := by
  obtain ⟨b2, old2, q1, q2, q3, q4, q5, q6, q7, q8, q9⟩ := grow_inv hg
  rw [hb] at q1; cases q1
  rw [hold] at q5; cases q5
  subst q6
  have hget : ∀ z bz, (h.only b.fam x).get z = some (.cells bz) → h.get z = some (.cells bz) ∧ (z ∈ h.members b.fam → z = x) := by
    intro z bz hz
    rw [Heap.get_only] at hz
    split at hz
    · cases hz
    · rename_i hn
      exact ⟨hz, fun hm => Classical.byContradiction fun e => hn ⟨hm, e⟩⟩
  obtain ⟨_, _, _, _, hmx, hfx⟩ := hh.cells x b hb
  refine h1.add (b := ⟨old ++ new, b.elem, b.es, b.fam, false⟩) (hh.none_next (Nat.le_refl _)) (by rw [Heap.next_only, q7]; omega) (by rw [q7]; omega) q8 (fun z bz hz hm => ?_) (by rw [q9]; simp) (.inr hfx) hl' (fun _ => hB) (fun z bz lz hz hlz e => hsep z bz lz (hget z bz hz).1 hlz e)
  rw [q9]
  split
  · rename_i e
    obtain ⟨_, _, _, _, hmz, _⟩ := hh.cells z bz (hget z bz hz).1
    rw [e] at hmz
    simp [(hget z bz hz).2 hmz]
  · exact hm

theorem grow_in (hh : HR NG B ρ h w) {x o n y : Nat} {new new' : List Value} {h' : Heap} {l : Loc} (hg : h.grow x o n new = some (y, h')) (hl : ρ x = some l) (hn : LR ρ new new') (hone : ∀ v, v ∈ new' → v.oneCell' = true)
    (hroom : l.base + o + n + new.length ≤ l.size) : ∃ w', (storeCells ⟨l.b, l.base + o + n, none⟩ new').run P w = .ok () w' ∧ HR NG B (upd ρ y ⟨l.b, l.base + o, l.size, l.es, n + new.length⟩) h' w' ∧
      Step h.next ρ h w (upd ρ y ⟨l.b, l.base + o, l.size, l.es, n + new.length⟩) h' w' := by
  obtain ⟨b, old, q1, q2, q3, q4, q5, q6, q7, q8, q9⟩ := grow_inv hg
  obtain ⟨l', hl', hbr, hB, hmem, hfam⟩ := hh.cells x b q1
  rw [hl] at hl'; cases hl'
  obtain ⟨⟨c, fr, h1, h2, h3, h4⟩, h5, h6, h7, h8⟩ := hbr
  have hlen := hn.1
  obtain ⟨c', r1, r2, r3⟩ := run_storeCells (P := P) (g := l.b) (p := l.base + o + n) (e := b.elem) (fr := fr) new' 0 c w h1 hone (.inl (by omega)) (fun k hk1 hk2 => by have := h3 q2; omega)
  have hon : HR NG B ρ (h.only b.fam x) w := hh.only b.fam x
  have hxo : (h.only b.fam x).get x = some (.cells b) := by rw [Heap.get_only, if_neg (by simp)]; exact q1
  obtain ⟨o1, o2, o3, _⟩ := take_drop_get q5
  have hb' : BlkR ρ (setBlk w l.b (.cells c' b.elem fr)) l b := by
    refine ⟨⟨c', fr, setBlk_same _ _ _ (hh.dom x l hl).2, by rw [r2]; exact h2, h3, fun i v hv => ?_⟩, h5, h6, h7, h8⟩
    have hi : i < b.cells.length := (List.getElem?_eq_some_iff.1 hv).1
    rw [r3, if_neg (by omega)]
    exact h4 i v hv
  have hon' : HR NG B ρ (h.only b.fam x) (setBlk w l.b (.cells c' b.elem fr)) := by
    refine hon.setCells (b := b) (b' := b) hxo hl (fun z bz hz hf => ?_) q2 rfl hb' rfl (fun z => ?_) (fun _ => rfl)
    · rw [Heap.get_only] at hz
      split at hz
      · cases hz
      · rename_i hn2
        obtain ⟨_, _, _, _, hm2, _⟩ := hh.cells z bz hz
        rw [hf] at hm2
        exact Classical.byContradiction fun e => hn2 ⟨hm2, e⟩
    · by_cases e : z = x
      · rw [if_pos e, e]; exact hxo
      · rw [if_neg e]
  refine ⟨_, r1, ?_, ?_⟩
  · refine grow_add hh hg q1 q5 hon' (l' := ⟨l.b, l.base + o, l.size, l.es, n + new.length⟩) ?_ (hB q2) (fun z bz lz hz hlz e => ?_)
    · refine ⟨⟨c', fr, setBlk_same _ _ _ (hh.dom x l hl).2, by rw [r2]; exact h2, fun _ => h3 q2, fun i v hv => ?_⟩, h5, ?_, ?_, ?_⟩
      · simp only at hv ⊢
        rw [List.getElem?_append] at hv
        by_cases hi : i < old.length
        · rw [if_pos hi] at hv
          rw [o3 i (by omega)] at hv
          rw [r3, if_neg (by omega)]
          obtain ⟨v', g1, g2⟩ := h4 _ _ hv
          exact ⟨v', by rw [← g1]; congr 1; omega, g2⟩
        · rw [if_neg hi] at hv
          have hi2 : i - old.length < new.length := (List.getElem?_eq_some_iff.1 hv).1
          rw [r3, if_pos (by omega)]
          obtain ⟨y, g1, g2⟩ := hn.get hv
          exact ⟨y, by rw [← g1]; congr 1; omega, g2⟩
      · simp only
        rw [Nat.add_mod, h6, q3]; simp
      · simp only [List.length_append]
        omega
      · simp only [List.length_append]
        omega
    · simp only at e
      rcases hh.sepC z x bz b lz l hz q1 hlz hl e with h | h
      · exact h
      · rw [q2] at h; cases h.2
  · rw [q6]
    exact Step.upd (hh.none_next (Nat.le_refl _)) (Nat.le_refl _) (by omega) (fun z => both_or (alive_get q8 z) (alive_only _ _ z)) (.inr ⟨x, l, .inl ⟨b, q1, q2⟩, hl, rfl⟩) (by rw [setBlk_size]; exact Nat.le_refl _) rfl rfl rfl (fun _ _ hno => setBlk_ne _ _ _ _ (fun e => hno x l (.inl ⟨b, q1, q2⟩) hl e.symm))

theorem grow_out (hh : HR NG B ρ h w) {e : TypeId} {x o n y need newCap size : Nat} {new new' old' : List Value} {h' : Heap} {b : Blk} {z : Value} {d : Nat} (hg : h.grow x o n new = some (y, h')) (hb : h.get x = some (.cells b)) (hn : LR ρ new new')
    (hold : ∀ old, takeN n (dropN o b.cells) = some old → LR ρ old old') (he : b.elem = e) (hes : b.es = size) (hlen : n + new.length = need * size) (hcap : need ≤ newCap) (hz : z.cells.size = size) :
    let c := (old' ++ new').toArray ++ Builtin.zeroCells z.cells (newCap - need)
    let ρ' := upd ρ y ⟨w.heap.size, 0, c.size, size, n + new.length⟩
    HR NG B ρ' h' { w with heap := w.heap.push (.cells c e), drawn := d } ∧ Step h.next ρ h w ρ' h' { w with heap := w.heap.push (.cells c e), drawn := d } ∧
    VR ρ' (.slice (some ⟨y, 0, none⟩) need need) (.slice (some ⟨w.heap.size, 0, none⟩) need newCap) := by
  intro c ρ'
  obtain ⟨b2, old, q1, q2, q3, q4, q5, q6, q7, q8, q9⟩ := grow_inv hg
  rw [hb] at q1; cases q1
  have hold := hold old q5
  obtain ⟨o1, o2, o3, _⟩ := take_drop_get q5
  have hall := hold.append hn
  have hl' := hall.1
  have hcs : c.size = newCap * size := by
    simp only [c, Array.size_append, List.size_toArray, Builtin.zeroCells, Array.size_map, Array.size_range]
    rw [← hl', List.length_append, o1, hlen, hz, ← Nat.add_mul]
    congr 1; omega
  have hw1 : HR NG B ρ (h.only b.fam x) { w with heap := w.heap.push (.cells c e), drawn := d } := (hh.only b.fam x).world (by simp) fun x l hx => by
    have := (hh.dom x l hx).2
    simp only [Array.getElem?_push]; rw [if_neg (by omega)]
  refine ⟨?_, ?_, ?_⟩
  · refine grow_add hh hg hb q5 hw1 (l' := ⟨w.heap.size, 0, c.size, size, n + new.length⟩) ?_ hh.room (fun z bz lz hz hlz e => by have := (hh.dom z lz hlz).2; simp only at e; omega)
    refine ⟨⟨c, (0, 0), by simp [he], rfl, fun _ => .inl rfl, fun i v hv => ?_⟩, hes.symm, by simp, ?_, ?_⟩
    · simp only at hv ⊢
      obtain ⟨y, g1, g2⟩ := hall.get hv
      refine ⟨y, ?_, g2⟩
      have hi : i < (old' ++ new').length := (List.getElem?_eq_some_iff.1 g1).1
      simp only [c, Nat.zero_add]
      rw [Array.getElem?_append_left (by simpa using hi)]
      simpa using g1
    · simp only [List.length_append]
      rw [hcs, o1, hlen]
      have := Nat.mul_le_mul_right size hcap
      omega
    · simp only [List.length_append]
      omega
  · simp only [ρ', q6]
    exact Step.upd (hh.none_next (Nat.le_refl _)) (Nat.le_refl _) (by omega) (fun z => both_or (alive_get q8 z) (alive_only _ _ z)) (.inl (Nat.le_refl _)) (by simp) rfl rfl rfl (fun b hb _ => by
      simp only [Array.getElem?_push]; rw [if_neg (by omega)])
  · exact .slice y 0 _ need need newCap ⟨w.heap.size, 0, none⟩ (upd_same _ _ _) hcap hcap (fun _ => ⟨by simp, by dsimp only; omega⟩) (.inr (by dsimp only; omega))

section
variable {ts : Array TypeId} {ty sT xT e : TypeId} {xd : TypeDesc} {i : TypeInfo} {x' : Value} {base' : Option Addr} {sLen cap' n : Nat} {new' : List Value}
  (hs0 : ts[0]? = some sT) (hs1 : ts[1]? = some xT) (hu : P.underlying sT = some (.slice e)) (hxu : P.underlying xT = some xd) (hxd : (∃ e', xd = .slice e') ∨ xd = .string) (hi : P.info? e = some i)
  (hlen : ∀ w, (Builtin.lenOf x').run P w = .ok n w)
include hs0 hs1 hu hxu hxd hi hlen

theorem run_append_in {w' : World} (hnew : (Builtin.firstCells i.size n x').run P w = .ok new'.toArray w) (hle : sLen + n ≤ cap')
    (hst : ∀ a, base' = some a → (storeCells (a.add (sLen * i.size)) new').run P w = .ok () w') (hno : base' = none → w' = w) :
    (Builtin.append_ ts ty #[.slice base' sLen cap', x']).run P w = .ok (.slice base' (sLen + n) cap') w' := by
  have hst' : (do if let some a := base' then storeCells (a.add (sLen * i.size)) new' : Sem Unit).run P w = .ok () w' := by
    cases base' with
    | none => rw [hno rfl]; rfl
    | some a => exact hst a rfl
  rcases hxd with ⟨e', rfl⟩ | rfl
  · cases base' with
    | none =>
      have := hno rfl
      subst this
      simp [Builtin.append_, hs0, hs1, run_und hu, run_und hxu, Go.sizeOf, run_info hi, hlen, hle, hnew]
    | some a =>
      have := hst a rfl
      simp [Builtin.append_, hs0, hs1, run_und hu, run_und hxu, Go.sizeOf, run_info hi, hlen, hle, hnew, this]
  · cases base' with
    | none =>
      have := hno rfl
      subst this
      simp [Builtin.append_, hs0, hs1, run_und hu, run_und hxu, Go.sizeOf, run_info hi, hlen, hle, hnew]
    | some a =>
      have := hst a rfl
      simp [Builtin.append_, hs0, hs1, run_und hu, run_und hxu, Go.sizeOf, run_info hi, hlen, hle, hnew, this]

theorem run_append_out {old' : List Value} {z : Value} (hnew : ∀ d, (Builtin.firstCells i.size n x').run P { w with drawn := d } = .ok new'.toArray { w with drawn := d })
    (hold : ∀ d, (Builtin.firstCells i.size sLen (.slice base' sLen cap')).run P { w with drawn := d } = .ok old'.toArray { w with drawn := d })
    (hz : i.zero = some z) (hle : ¬ sLen + n ≤ cap') (h63 : ((sLen : Int) + n) ≤ 9223372036854775807) (hfit : Builtin.nextslicecap (sLen + n) cap' * i.bytes ≤ 281474976710656) :
    ∃ newCap d, sLen + n ≤ newCap ∧ (Builtin.append_ ts ty #[.slice base' sLen cap', x']).run P w =
      .ok (.slice (some ⟨w.heap.size, 0, none⟩) (sLen + n) newCap) { w with heap := w.heap.push (.cells ((old' ++ new').toArray ++ Builtin.zeroCells z.cells (newCap - (sLen + n))) e), drawn := d } := by
  refine ⟨grownCap w (sLen + n) cap' e, w.drawn + 1, ?_, ?_⟩
  · simp only [grownCap, Question.cut]; exact Nat.le_add_right _ _
  have h63' : ¬ (9223372036854775807 < ((sLen : Int) + (n : Int))) := by omega
  have h48' : ¬ (281474976710656 < Builtin.nextslicecap (sLen + n) cap' * i.bytes) := by omega
  have hn1 := hnew (w.drawn + 1)
  have ho1 := hold (w.drawn + 1)
  have hzv : ∀ d, (zeroValue e).run P { w with drawn := d } = .ok z { w with drawn := d } := fun d => by simp [zeroValue, run_info hi, hz]
  have hzv1 := hzv (w.drawn + 1)
  have happ : (old' ++ new').toArray = old'.toArray ++ new'.toArray := by simp
  rcases hxd with ⟨e', rfl⟩ | rfl
  · simp [Builtin.append_, hs0, hs1, run_und hu, run_und hxu, Go.sizeOf, run_info hi, hlen, hle, h63', h48', Question.forced, hn1, ho1, hzv1, newRow, grownCap, -World.drew_eq, -World.alloc_eq]
    rw [happ, Array.append_assoc]
  · simp [Builtin.append_, hs0, hs1, run_und hu, run_und hxu, Go.sizeOf, run_info hi, hlen, hle, h63', h48', Question.forced, hn1, ho1, hzv1, newRow, grownCap, -World.drew_eq, -World.alloc_eq]
    rw [happ, Array.append_assoc]
end

theorem appendV_sound (hh : HR NG B ρ h w) {ts : Array TypeId} {ty : TypeId} {args args' : List Value} {v : Value} {h' : Heap} (hv : appendV P ts args h = some (v, h')) (ha : LR ρ args args') :
    Res NG B ρ h w ((Builtin.append_ ts ty args'.toArray).run P w) v h' := by
  unfold appendV at hv
  split at hv
  · rename_i sT xT base sLen sCap x hs0 hs1
    obtain ⟨s', t1, rfl, hs', ht1⟩ := ha.cons_inv
    obtain ⟨x', t2, rfl, hx', ht2⟩ := ht1.cons_inv
    cases ht2.nil_inv
    split at hv
    · rename_i e xd hu hxu
      split at hv
      · cases hv
      · rename_i hxd
        have hxd' : (∃ e', xd = .slice e') ∨ xd = .string := by
          cases xd <;> first | exact .inl ⟨_, rfl⟩ | exact .inr rfl | exact absurd rfl hxd
        simp only [Option.bind_eq_bind, Option.bind_eq_some_iff] at hv
        obtain ⟨i, hi, n, hn, new, hnew, z, hz, hv⟩ := hv
        split at hv
        · cases hv
        · rename_i hcond
          simp only [not_or, Bool.not_eq_true', Bool.not_eq_false, ne_eq, Decidable.not_not, Nat.not_lt] at hcond
          obtain ⟨c1, c2, c3, c4, c5, c6⟩ := hcond
          have hlen1 : ∀ w, (Builtin.lenOf x').run P w = .ok n w := fun w => (lenOf_sound (P := P) (w := w) hn hx').1
          have hlen2 := (lenOf_sound (P := P) (w := w) hn hx').2
          have hle2 : ∀ a l c, x = .slice a l c → n ≤ l := fun a l c h => by rw [hlen2 a l c h]; exact Nat.le_refl _
          obtain ⟨new', hnew1, hnew2⟩ := firstOf_sound (P := P) hh hnew hx' hle2
          have hnew0 := hnew1 w.drawn
          have hone := hnew2.oneCells c6
          obtain ⟨⟨i2, hi2, hzz⟩, hcl⟩ := zeroOf_eq hz
          rw [hi] at hi2; cases hi2
          have hnl := hnew2.1
          split at hv
          · rename_i hle
            split at hv
            · rename_i a
              cases hs' with
              | slice x0 o l _ _ cap' a' hl hcap hlen haddr hex =>
                simp only [Option.isSome_none, Bool.false_eq_true, if_false] at hv
                split at hv
                · rename_i h0
                  cases hv
                  have e : new' = [] := by
                    cases new' with
                    | nil => rfl
                    | cons u t => rw [h0] at c5; simp at c5; rw [c5] at hnl; simp at hnl
                  subst e
                  refine ⟨_, w, ρ, run_append_in hs0 hs1 hu hxu hxd' hi hlen1 (w' := w) hnew0 (by omega) (fun _ _ => rfl) (fun _ => rfl), .refl _ _ _ _, hh, ?_⟩
                  exact .slice x0 o l _ _ cap' a' hl hcap (by omega) haddr hex
                · rename_i h0
                  simp only [Option.bind_eq_some_iff] at hv
                  obtain ⟨b, hb, hv⟩ := hv
                  split at hv
                  · cases hv
                  · rename_i hes
                    simp only [Option.bind_eq_some_iff] at hv
                    obtain ⟨h2, hw, hv⟩ := hv
                    cases hv
                    obtain ⟨ha', hs'⟩ := haddr (by omega)
                    subst ha'
                    have hne : new ≠ [] := by
                      rintro rfl
                      simp only [List.length_nil] at c5
                      rcases Nat.mul_eq_zero.1 c5.symm with h | h
                      · exact h0 h
                      · exact c1 h
                    obtain ⟨w', g1, g2, g3⟩ := write_sound (P := P) hh hw hl hne hnew2 hone
                    refine ⟨_, w', ρ, run_append_in hs0 hs1 hu hxu hxd' hi hlen1 (w' := w') hnew0 (by omega) (fun a ha => ?_) (fun h => by cases h), g3, g2, ?_⟩
                    · cases ha
                      rw [add_eq, Nat.add_assoc]
                      exact g1
                    · exact .slice x0 o l _ _ cap' _ hl hcap (by omega) haddr hex
            · cases hs'
              cases hv
              have h0 : n = 0 := by omega
              subst h0
              exact ⟨_, w, ρ, run_append_in hs0 hs1 hu hxu hxd' hi hlen1 (w' := w) hnew0 (by omega) (fun _ h => by cases h) (fun _ => rfl), .refl _ _ _ _, hh, .nilSlice⟩
          · rename_i hle
            split at hv
            · cases hv
            · rename_i hsm
              have hsm : (2 * (sLen + n) + 8) * (i.bytes + i.size + 1) ≤ 2 ^ 46 := by
                simp only [small, Bool.not_eq_true', Bool.not_eq_false] at hsm
                exact Nat.le_of_ble_eq_true hsm
              have hneed : sLen + n ≤ 2 ^ 46 := by
                have : (2 * (sLen + n) + 8) * 1 ≤ (2 * (sLen + n) + 8) * (i.bytes + i.size + 1) := Nat.mul_le_mul_left _ (by omega)
                omega
              have hfit : ∀ cap', cap' < sLen + n → Builtin.nextslicecap (sLen + n) cap' * i.bytes ≤ 281474976710656 := by
                intro cap' hc
                refine growslice_fits hc ?_
                have : (sLen + n) * i.bytes ≤ (2 * (sLen + n) + 8) * (i.bytes + i.size + 1) := Nat.mul_le_mul (by omega) (by omega)
                omega
              split at hv
              · rename_i a
                cases hs' with
                | slice x0 o l _ _ cap' a' hl hcap hlen haddr hex =>
                  simp only [Option.isSome_none, Bool.false_eq_true, if_false, Option.bind_eq_some_iff] at hv
                  obtain ⟨b, hb, hv⟩ := hv
                  split at hv
                  · cases hv
                  · rename_i hbb
                    simp only [not_or, ne_eq, Decidable.not_not] at hbb
                    obtain ⟨l0, q1, q2, q3, q4, q5⟩ := hh.cells x0 b (blk_some hb)
                    rw [hl] at q1; cases q1
                    split at hv
                    · rename_i hexact
                      simp only [Option.bind_eq_some_iff] at hv
                      obtain ⟨old, hold, hv⟩ := hv
                      cases hv
                      have hcc : cap' = sCap := by
                        rcases hex with h | h
                        · exact h
                        · rw [q2.es, hbb.1, q2.len] at h; exact absurd h hexact
                      subst hcc
                      have hslice : VR ρ (.slice (some ⟨x0, o, none⟩) sLen cap') (.slice (some a') sLen cap') := .slice x0 o l _ _ cap' a' hl hcap hlen haddr hex
                      obtain ⟨old', hold1, hold2⟩ := firstOf_sound (P := P) hh hold hslice (fun a l c h => by cases h; exact Nat.le_refl _)
                      obtain ⟨nc, d, hnc, hrun⟩ := run_append_out (ty := ty) hs0 hs1 hu hxu hxd' hi hlen1 hnew1 hold1 hzz hle (by omega) (hfit _ (by omega))
                      have holdlen : old.length = sLen * i.size := by
                        unfold firstOf at hold
                        simp only [Option.isSome_none, Bool.false_eq_true, if_false] at hold
                        exact (read_sound hh hold hl).choose_spec.2.1
                      obtain ⟨p1, p2, p3⟩ := append_new (e := e) (need := sLen + n) (newCap := nc) (d := d) (z := z) hh (hold2.append hnew2) (by simp [holdlen, c5, Nat.add_mul]) hnc c4
                      exact ⟨_, _, _, hrun, p2, p1, p3⟩
                    · rename_i hexact
                      simp only [Option.bind_eq_some_iff] at hv
                      obtain ⟨⟨y, h2⟩, hg, hv⟩ := hv
                      cases hv
                      have hg2 := grow_inv hg
                      obtain ⟨b2, old, g1, g2, g3, g4, g5, g6, g7, g8, g9⟩ := hg2
                      have hbx := blk_some hb
                      rw [hbx] at g1; cases g1
                      by_cases hin : sLen + n ≤ cap'
                      · by_cases hc0 : cap' = 0
                        · exact absurd hin (by omega)
                        · obtain ⟨ha', hs'⟩ := haddr hc0
                          subst ha'
                          have hes : l.es = i.size := q2.es.trans hbb.1
                          have hmul : (sLen + n) * i.size ≤ cap' * i.size := Nat.mul_le_mul_right _ hin
                          rw [Nat.add_mul] at hmul
                          obtain ⟨w', p1, p2, p3⟩ := grow_in (P := P) hh hg hl hnew2 hone (by rw [hes] at hs'; omega)
                          refine ⟨_, w', _, run_append_in hs0 hs1 hu hxu hxd' hi hlen1 (w' := w') hnew0 hin (fun a ha => ?_) (fun h => by cases h), p3, p2, ?_⟩
                          · cases ha
                            rw [add_eq]
                            exact p1
                          · refine .slice y 0 _ _ _ cap' _ (upd_same _ _ _) hin hin (fun _ => ⟨by simp, by dsimp only; rw [hes] at hs' ⊢; omega⟩) (.inr ?_)
                            dsimp only
                            rw [hes, c5, Nat.add_mul]; omega
                      · have hslice : VR ρ (.slice (some ⟨x0, o, none⟩) sLen sCap) (.slice (some a') sLen cap') := .slice x0 o l _ _ cap' a' hl hcap hlen haddr hex
                        have hold0 : firstOf h i.size sLen (.slice (some ⟨x0, o, none⟩) sLen sCap) = some old := by
                          unfold firstOf Heap.read
                          simp only [Option.isSome_none, Bool.false_eq_true, if_false, hb]
                          exact g5
                        obtain ⟨old', hold1, hold2⟩ := firstOf_sound (P := P) hh hold0 hslice (fun a l c h => by cases h; exact Nat.le_refl _)
                        obtain ⟨nc, d, hnc, hrun⟩ := run_append_out (ty := ty) hs0 hs1 hu hxu hxd' hi hlen1 hnew1 hold1 hzz hin (by omega) (hfit _ (by omega))
                        obtain ⟨p1, p2, p3⟩ := grow_out (e := e) (need := sLen + n) (newCap := nc) (d := d) (z := z) hh hg hbx hnew2 (fun old2 h => by rw [g5] at h; cases h; exact hold2) hbb.2 hbb.1 (by rw [c5, Nat.add_mul]) hnc c4
                        exact ⟨_, _, _, hrun, p2, p1, p3⟩
              · split at hv
                · cases hv
                · rename_i hs0'
                  simp only [ne_eq, Decidable.not_not] at hs0'
                  subst hs0'
                  cases hv
                  cases hs'
                  obtain ⟨nc, d, hnc, hrun⟩ := run_append_out (ty := ty) (base' := none) (old' := []) hs0 hs1 hu hxu hxd' hi hlen1 hnew1 (fun _ => rfl) hzz hle (by omega) (hfit _ (by omega))
                  obtain ⟨p1, p2, p3⟩ := append_new (e := e) (need := 0 + n) (newCap := nc) (d := d) (z := z) hh hnew2 (by simp [c5]) hnc c4
                  exact ⟨_, _, _, hrun, p2, p1, p3⟩
    · cases hv
  · cases hv
end
end Go.AX

namespace Go.AX
open Go
section
variable {P : Program} {w : World} {NG B : Nat} {ρ : Map} {h : Heap}

theorem copyV_sound (hh : HR NG B ρ h w) {ts : Array TypeId} {ty : TypeId} {args args' : List Value} {v : Value} {h' : Heap} (hv : copyV P ts args h = some (v, h')) (ha : LR ρ args args') :
    Res NG B ρ h w ((Builtin.copy_ ts ty args'.toArray).run P w) v h' := by
  unfold copyV at hv
  split at hv
  · rename_i dT base dLen dCap src hs0
    obtain ⟨s', t1, rfl, hs', ht1⟩ := ha.cons_inv
    obtain ⟨x', t2, rfl, hx', ht2⟩ := ht1.cons_inv
    cases ht2.nil_inv
    split at hv
    · rename_i e hu
      simp only [Option.bind_eq_bind, Option.bind_eq_some_iff] at hv
      obtain ⟨size, hsz, sn, hsn, cells, hcells, hv⟩ := hv
      obtain ⟨hl1, hl2⟩ := lenOf_sound (P := P) (w := w) hsn hx'
      obtain ⟨cells', hc1, hc2⟩ := firstOf_sound (P := P) hh hcells hx' (fun a l c h => by rw [← hl2 a l c h]; exact Nat.min_le_left _ _)
      have hc0 : (Builtin.firstCells size (sn.min dLen) x').run P w = .ok cells'.toArray w := hc1 w.drawn
      have hrun : ∀ (base' : Option Addr) (cap' : Nat) (w' : World), s' = .slice base' dLen cap' → (∀ a, base' = some a → (storeCells a cells').run P w = .ok () w') → (base' = none → w' = w) →
          (Builtin.copy_ ts ty #[s', x']).run P w = .ok (goInt (sn.min dLen)) w' := by
        intro base' cap' w' e h1 h2
        subst e
        cases base' with
        | none =>
          have := h2 rfl
          subst this
          simp [Builtin.copy_, hs0, run_und hu, hl1, run_size hsz, hc0]
        | some a =>
          have := h1 a rfl
          simp [Builtin.copy_, hs0, run_und hu, hl1, run_size hsz, hc0, this]
      split at hv
      · rename_i hemp
        cases hv
        have : cells' = [] := by
          have e := hc2.1
          simp only [List.isEmpty_iff] at hemp
          rw [hemp] at e
          cases cells' with
          | nil => rfl
          | cons a b => simp at e
        subst this
        cases hs' with
        | nilSlice => exact ⟨_, w, ρ, hrun none 0 w rfl (fun _ h => by cases h) (fun _ => rfl), .refl _ _ _ _, hh, .int _ _⟩
        | slice x o l _ _ cap' a' => exact ⟨_, w, ρ, hrun (some a') cap' w rfl (fun _ _ => rfl) (fun _ => rfl), .refl _ _ _ _, hh, .int _ _⟩
      · rename_i hemp
        split at hv
        · rename_i a
          split at hv
          · cases hv
          · rename_i hone
            simp only [not_or, Bool.not_eq_true', Bool.not_eq_false] at hone
            simp only [Option.bind_eq_some_iff] at hv
            obtain ⟨h2, hw, hv⟩ := hv
            cases hv
            cases hs' with
            | slice x o l _ _ cap' a' hl hcap hlen haddr hex =>
              have hpos : cap' ≠ 0 := by
                intro e0
                have e1 : dLen = 0 := by omega
                subst e1
                apply hemp
                have e2 : sn.min 0 = 0 := Nat.min_zero _
                rw [e2] at hcells
                unfold firstOf at hcells
                split at hcells
                · split at hcells
                  · cases hcells
                  · simp only [Nat.zero_mul] at hcells
                    unfold Heap.read at hcells
                    split at hcells
                    · simp only [takeN, Option.some.injEq] at hcells
                      rw [← hcells]; rfl
                    · cases hcells
                · simp only [if_true, Option.some.injEq] at hcells; rw [← hcells]; rfl
                · cases hcells; simp
                · cases hcells
              obtain ⟨ha', _⟩ := haddr hpos
              subst ha'
              obtain ⟨w', g1, g2, g3⟩ := write_sound (P := P) hh hw hl (fun e => hemp (by rw [e]; rfl)) hc2 (hc2.oneCells hone.2)
              exact ⟨_, w', ρ, hrun (some ⟨l.b, l.base + o, none⟩) cap' w' rfl (fun a h => by cases h; exact g1) (fun h => by cases h), g3, g2, .int _ _⟩
        · cases hv
    · cases hv
  · cases hv

theorem storeV_sound (hh : HR NG B ρ h w) {t : TypeId} {a v a' v' : Value} {h' : Heap} (hv : storeV P t a v h = some h') (ha : VR ρ a a') (hx : VR ρ v v') :
    ∃ w', (Instr.storeAt t a' v').run P w = .ok () w' ∧ Step h.next ρ h w ρ h' w' ∧ HR NG B ρ h' w' := by
  unfold storeV at hv
  split at hv
  · rename_i A
    simp only [Option.bind_eq_bind, Option.bind_eq_some_iff] at hv
    obtain ⟨n, hn, hv⟩ := hv
    split at hv
    · cases hv
    · rename_i hc
      simp only [not_or, ne_eq, Decidable.not_not, Bool.not_eq_true', Bool.not_eq_false] at hc
      cases ha with
      | ptr x o l hl =>
        have hcl := hx.cells
        have hsz : v'.cells.size = n := by have := hcl.1; simp at this; omega
        obtain ⟨w', g1, g2, g3⟩ := write_sound (P := P) hh hv hl (fun e => hc.2.2.1 (by have := hc.2.1; rw [← this]; simpa using congrArg List.length e)) hcl (hcl.oneCells hc.2.2.2)
        exact ⟨w', by simp [Instr.storeAt, Instr.sureAddr, Go.storeVar, run_size hn, hsz, g1], g3, g2⟩
  · cases hv

theorem makeSliceV_sound (hh : HR NG B ρ h w) {t : TypeId} {l c l' c' : Value} {v : Value} {h' : Heap} (hv : makeSliceV P t l c h = some (v, h')) (hl : VR ρ l l') (hc : VR ρ c c') :
    Res NG B ρ h w ((Instr.makeSlice t l' c').run P w) v h' := by
  unfold makeSliceV at hv
  split at hv
  · rename_i e l c hu
    cases hl; cases hc
    simp only [Option.bind_eq_bind, Option.bind_eq_some_iff] at hv
    obtain ⟨i, hi, z, hz, hv⟩ := hv
    split at hv
    · cases hv
    · rename_i hcond
      simp only [not_or, ne_eq, Decidable.not_not, Int.not_lt] at hcond
      obtain ⟨c1, c2, c3, c4⟩ := hcond
      split at hv
      · cases hv
      · rename_i hsm
        cases hv
        have hsm : (2 * c.toNat + 8) * (i.bytes + i.size + 1) ≤ 2 ^ 46 := by
          simp only [small, Bool.not_eq_true', Bool.not_eq_false] at hsm
          exact Nat.le_of_ble_eq_true hsm
        have hcap : c.toNat ≤ 2 ^ 46 := by
          have : (2 * c.toNat + 8) * 1 ≤ (2 * c.toNat + 8) * (i.bytes + i.size + 1) := Nat.mul_le_mul_left _ (by omega)
          omega
        have hbytes : i.bytes * c.toNat ≤ 2 ^ 46 := by
          have : c.toNat * i.bytes ≤ (2 * c.toNat + 8) * (i.bytes + i.size + 1) := Nat.mul_le_mul (by omega) (by omega)
          rw [Nat.mul_comm]; omega
        obtain ⟨⟨i2, hi2, hzz⟩, hcl⟩ := zeroOf_eq hz
        rw [hi] at hi2; cases hi2
        have hrun := run_make (P := P) w t e i z hu hi hzz .i64 .i64 l c c1 c2 (by
          have : ((i.bytes * c.toNat : Nat) : Int) ≤ 2 ^ 46 := by exact_mod_cast hbytes
          rw [Int.natCast_mul, Int.toNat_of_nonneg (by omega)] at this
          omega) (by omega)
        have hcells : (madeCells z.cells (c.toNat * i.size)) = (zeros z.cells.toList c.toNat).toArray := zeros_eq z.cells c.toNat i.size c4 c3
        rw [hcells] at hrun
        have hzl : ∀ m, LR ρ (zeros z.cells.toList m) (zeros z.cells.toList m) := by
          have hz0 : LR ρ z.cells.toList z.cells.toList := VR.cells (VR.closed (ρ := ρ) hcl)
          intro m
          induction m with
          | zero => exact .nil _
          | succ m ih => exact hz0.append ih
        have hlen : (zeros z.cells.toList c.toNat).length = c.toNat * i.size := by rw [zeros_length]; simp [c4]
        obtain ⟨g1, g2⟩ := row_sound (n := ⟨zeros z.cells.toList c.toNat, e, i.size, none⟩) (c := (zeros z.cells.toList c.toNat).toArray) (fr := (0, 0)) (d := w.drawn) hh (.inl rfl) (by
          simp only [List.take_length]; exact hzl _) (by simp)
        refine ⟨_, _, _, hrun, g2, g1, ?_⟩
        refine .slice h.next 0 _ _ _ _ ⟨w.heap.size, 0, none⟩ (upd_same _ _ _) (Nat.le_refl _) (by omega) (fun _ => ⟨by simp, ?_⟩) (.inl rfl)
        dsimp only
        rw [List.size_toArray, hlen]; omega
  · cases hv

theorem markStringish_run {a : Addr} {c : Array Value} {e : TypeId} {fr : Nat × Nat} (hg : w.heap[a.block]? = some (.cells c e fr)) :
    (markStringish a).run P w = .ok () (setBlk w a.block (.cells c e (if fr.1 == fr.2 then (c.size, c.size + 1) else (min fr.1 c.size, max fr.2 (c.size + 1))))) := by
  have hsh : w.shape? a.block = some (e, c.size) := by simp [World.shape?, hg]
  have hlt : a.block < w.heap.size := (Array.getElem?_eq_some_iff.1 hg).1
  have hge : w.heap[a.block] = .cells c e fr := (Array.getElem?_eq_some_iff.1 hg).2
  have : w.freeze { block := a.block, off := c.size } 1 = setBlk w a.block (.cells c e (if fr.1 == fr.2 then (c.size, c.size + 1) else (min fr.1 c.size, max fr.2 (c.size + 1)))) := by
    unfold World.freeze setBlk
    rw [if_neg (by omega)]
    congr 1
    apply Array.ext
    · simp
    · intro k h1 h2
      simp only [Array.size_modify] at h1
      rw [Array.getElem_modify, Array.getElem_setIfInBounds (by simpa using h2)]
      by_cases hk : a.block = k
      · rw [if_pos hk, if_pos hk]
        have : w.heap[k] = .cells c e fr := by rw [← hge]; congr 1; exact hk.symm
        rw [this]
      · rw [if_neg hk, if_neg hk]
  simp [markStringish, hsh, this]

theorem strBytes_sound (hh : HR NG B ρ h w) {e : TypeId} {s : ByteArray} {v : Value} {h' : Heap} (hv : strBytes P e s h = some (v, h')) :
    Res NG B ρ h w ((Conv.stringToBytes e s).run P w) v h' := by
  unfold strBytes at hv
  simp only [Option.bind_eq_bind, Option.bind_eq_some_iff] at hv
  obtain ⟨i, hi, hv⟩ := hv
  split at hv
  · cases hv
  · cases hv
    let cap := (Question.appendCap s.size 0 e).cut (w.tape w.drawn (Question.appendCap s.size 0 e))
    have hcap : s.size ≤ cap := by simp only [cap, Question.cut]; exact Nat.le_add_right _ _
    let c : Array Value := s.data.map (fun b => Value.int .u8 b.toNat) ++ Array.replicate (cap - s.size) (.int .u8 0)
    have hcs : c.size = cap := by
      simp only [c, Array.size_append, Array.size_map, Array.size_replicate]
      have : s.data.size = s.size := rfl
      omega
    have hrun : (Conv.stringToBytes e s).run P w = .ok (.slice (some ⟨w.heap.size, 0, none⟩) s.size cap) { w with heap := w.heap.push (.cells c e (cap, cap + 1)), drawn := w.drawn + 1 } := by
      have hq : (Question.appendCap s.size 0 e).forced = false := rfl
      have hm := markStringish_run (P := P) (w := { w with heap := w.heap.push (.cells c e), drawn := w.drawn + 1 }) (a := ⟨w.heap.size, 0, none⟩) (c := c) (e := e) (fr := (0, 0)) (by simp)
      have hw : setBlk { w with heap := w.heap.push (.cells c e), drawn := w.drawn + 1 } w.heap.size (.cells c e (c.size, c.size + 1)) = { w with heap := w.heap.push (.cells c e (cap, cap + 1)), drawn := w.drawn + 1 } := by
        unfold setBlk
        rw [hcs]
        congr 1
        apply Array.ext
        · simp
        · intro k h1 h2
          simp only [Array.size_push] at h2
          rw [Array.getElem_setIfInBounds (by simpa using h1)]
          by_cases hk : w.heap.size = k
          · subst hk; simp
          · rw [if_neg hk, Array.getElem_push_lt (by omega), Array.getElem_push_lt (by omega)]
      simp only [beq_self_eq_true, if_true] at hm
      rw [hw] at hm
      simp only [Conv.stringToBytes, Sem.run_bind, run_choose, hq, Bool.false_eq_true, if_false, Result.andThen_ok, newRow, run_newObj, Sem.run_pure]
      have e1 : Array.map (fun b : UInt8 => Value.int IntKind.u8 ↑b.toNat) s.data ++ Array.replicate ((Question.appendCap s.size 0 e).cut (w.tape w.drawn (Question.appendCap s.size 0 e)) - s.size) (Value.int IntKind.u8 0) = c := rfl
      rw [e1]
      have hm2 : (markStringish ⟨w.heap.size, 0, none⟩).run P { w with heap := w.heap.push (.cells c e), drawn := w.drawn + 1 } = _ := hm
      simp only [hm2, Result.andThen_ok]
      rfl
    have hbl := bl_length s
    obtain ⟨g1, g2⟩ := row_sound (n := ⟨(bl s).map fun b => .int .u8 b.toNat, e, 1, none⟩) (c := c) (fr := (cap, cap + 1)) (d := w.drawn + 1) hh (.inr (by simp only; omega)) (by
      have : c.toList.take ((bl s).map fun b : UInt8 => Value.int .u8 b.toNat).length = (bl s).map fun b => .int .u8 b.toNat := by
        simp only [c, Array.toList_append, Array.toList_map]
        rw [List.take_append_of_le_length (by simp [bl]), List.take_of_length_le (by simp [bl])]
        rfl
      simp only
      rw [this]
      exact .of_map _ _ _ fun _ _ => .int _ _) (by simp only [List.length_map]; omega)
    refine ⟨_, _, _, hrun, g2, g1, ?_⟩
    rw [← hbl]
    refine .slice h.next 0 _ _ _ cap ⟨w.heap.size, 0, none⟩ (upd_same _ _ _) (by omega) (by omega) (fun _ => ⟨by simp, by dsimp only; omega⟩) (.inr (by dsimp only; simp))

/-- A row's mark has turned, and no cell of it is frozen. -/
theorem HR.remark (hh : HR NG B ρ h w) {x : Nat} {b : Blk} {l : Loc} {c : Array Value} {fr fr' : Nat × Nat} (hl : ρ x = some l) (hg : w.heap[l.b]? = some (.cells c b.elem fr)) (hfr : fr'.1 = fr'.2 ∨ c.size ≤ fr'.1) :
    HR NG B ρ h (setBlk w l.b (.cells c b.elem fr')) where
  dom := fun x l hx => by rw [setBlk_size]; exact hh.dom x l hx
  cells := fun y bY hy => by
    obtain ⟨ly, h1, h2, h3⟩ := hh.cells y bY hy
    refine ⟨ly, h1, ?_, h3⟩
    by_cases e : ly.b = l.b
    · obtain ⟨⟨c2, fr2, g1, g2, g3, g4⟩, g5, g6, g7, g8⟩ := h2
      rw [e, hg] at g1
      injection g1 with g1
      injection g1 with e1 e2 _
      subst e1
      refine ⟨⟨c, fr', by rw [e, ← e2]; exact setBlk_same _ _ _ (hh.dom x l hl).2, g2, fun _ => by rw [← g2]; exact hfr, g4⟩, g5, g6, g7, g8⟩
    · exact h2.world (setBlk_ne _ _ _ _ e)
  iter := fun y s p hy => by
    obtain ⟨ly, h1, h2, h3⟩ := hh.iter y s p hy
    refine ⟨ly, h1, ?_, h3⟩
    rw [setBlk_ne _ _ _ _ (fun e => by rw [e, hg] at h2; cases h2)]
    exact h2
  sepC := hh.sepC
  sepI := hh.sepI
  glob := hh.glob
  next := hh.next
  room := by rw [setBlk_size]; exact hh.room

theorem convE_sound (hh : HR NG B ρ h w) {src dst : TypeId} {x x' : Value} {v : Value} {h' : Heap} (hv : convE P src dst x h = some (v, h')) (hx : VR ρ x x') :
    Res NG B ρ h w ((convert src dst x').run P w) v h' := by
  unfold convE at hv
  split at hv
  · rename_i e s hs hd
    cases hx
    split at hv
    · rename_i he
      have := strBytes_sound hh hv
      have e1 : (convert src dst (.string s)).run P w = (Conv.stringToBytes e s).run P w := by
        simp [convert, run_und hs, run_und hd, run_und he]
      rw [e1]; exact this
    · cases hv
  · rename_i e0 e a len cap hs hd
    split at hv
    · rename_i b he hb
      split at hv
      · rename_i hc
        cases hv
        obtain ⟨hsd, hc0, hro⟩ := hc
        cases hx with
        | slice x o l _ _ cap' a' hl hcap hlen haddr hex =>
          obtain ⟨ha', hs'⟩ := haddr (by omega)
          have hb := blk_some hb
          obtain ⟨l0, q1, q2, _⟩ := hh.cells x b hb
          rw [hl] at q1; cases q1
          obtain ⟨⟨c, fr, g1, g2, g3, g4⟩, _⟩ := q2
          subst ha'
          have hm := markStringish_run (P := P) (w := w) (a := ⟨l.b, l.base + o, none⟩) g1
          have hrun : (convert src dst (.slice (some ⟨l.b, l.base + o, none⟩) len cap')).run P w = .ok (.slice (some ⟨l.b, l.base + o, none⟩) len cap') (setBlk w l.b (.cells c b.elem (if fr.1 == fr.2 then (c.size, c.size + 1) else (min fr.1 c.size, max fr.2 (c.size + 1))))) := by
            subst hsd
            rw [hs] at hd
            cases hd
            simp [convert, run_und hs, run_und he, hm]
          refine ⟨_, _, ρ, hrun, Step.setBlk_step (.inl ⟨b, hb, hro⟩) hl _ (Nat.le_refl _) (fun _ => ⟨id, id⟩), ?_, .slice x o l _ _ cap' _ hl hcap hlen haddr hex⟩
          refine hh.remark hl g1 ?_
          split
          · exact .inr (Nat.le_refl _)
          · rename_i hne
            rcases g3 hro with h1 | h1
            · exact absurd (by simp [h1]) hne
            · right; simp only; omega
      · cases hv
    · cases hv
  · cases hv
end
end Go.AX

namespace Go.AX
open Go
section
variable {P : Program} {w : World} {NG B : Nat} {ρ : Map} {h : Heap}

theorem rangeV_sound (hh : HR NG B ρ h w) {t : TypeId} {x x' : Value} {v : Value} {h' : Heap} (hv : rangeV P t x h = some (v, h')) (hx : VR ρ x x') :
    Res NG B ρ h w ((Instr.range t x').run P w) v h' := by
  unfold rangeV at hv
  split at hv
  · rename_i s hu
    cases hv
    cases hx
    have hnone := hh.none_next (Nat.le_refl h.next)
    have hw1 : HR NG B ρ h { w with heap := w.heap.push (.stringIter s 0) } := hh.alloc _
    refine ⟨.pointer (some ⟨w.heap.size, 0, none⟩), { w with heap := w.heap.push (.stringIter s 0) }, upd ρ h.next ⟨w.heap.size, 0, 0, 0, 0⟩, ?_, ?_, ?_, ?_⟩
    · simp [Instr.range, run_und hu]
    · exact Step.upd hnone (Nat.le_refl _) (by rw [Heap.next_push]; omega) (fun z => alive_get (fun z => Heap.get_push _ _ _) z) (.inl (Nat.le_refl _)) (by simp) rfl rfl rfl (fun b hb _ => by
        simp only [Array.getElem?_push]; rw [if_neg (by omega)])
    · exact hw1.addIter (l := ⟨w.heap.size, 0, 0, 0, 0⟩) hnone (by rw [Heap.next_push]; omega) (by rw [Heap.next_push]; omega) (fun z => Heap.get_push _ _ _) (fun f => Heap.members_push _ _ _) (by simp) rfl hh.room (fun z lz hz e => by
        have := (hh.dom z lz hz).2; simp only at e; omega)
    · exact .ptr h.next 0 ⟨w.heap.size, 0, 0, 0, 0⟩ (upd_same _ _ _)
  · cases hv

theorem nextV_sound (hh : HR NG B ρ h w) {it it' : Value} {b : Bool} {ty : TypeId} {v : Value} {h' : Heap} (hv : nextV it b h = some (v, h')) (hx : VR ρ it it') :
    Res NG B ρ h w ((Instr.next it' b ty).run P w) v h' := by
  unfold nextV at hv
  split at hv
  · rename_i r
    split at hv
    · rename_i s pos hr
      obtain ⟨l, hl, hb, h0, hB⟩ := hh.iter r s pos hr
      cases hx with
      | ptr x o l' hl' =>
        rw [hl] at hl'; cases hl'
        have hget : (getObj l.b).run P w = .ok (.stringIter s pos) w := by simp [getObj, Sem.run, hb]
        rw [h0]
        split at hv
        · rename_i hlt
          cases hv
          rw [bl_length] at hlt
          have hset : ∀ o, (setObj l.b o).run P w = .ok () (setBlk w l.b o) := fun o => by simp only [setObj, Sem.run, hb]; rfl
          refine ⟨_, setBlk w l.b (.stringIter s (pos + (Utf8.decode s pos).2)), ρ, ?_, Step.setBlk_step (.inr ⟨s, pos, hr⟩) hl _ (by rw [Heap.next_put]; exact Nat.le_refl _) (fun z => alive_put (.inr ⟨s, pos, hr⟩) z), ?_, LR.tuple (l := [.bool true, goInt pos, .int .i32 (Utf8.decode s pos).1]) (l' := [.bool true, goInt pos, .int .i32 (Utf8.decode s pos).1]) (.cons (.bool _) (.cons (.int _ _) (.cons (.int _ _) (.nil _))))⟩
          · simp only [Instr.next, Nat.add_zero, Sem.run_bind, hget, Result.andThen_ok, Sem.run_ite]
            rw [if_pos hlt]
            simp only [hset, Result.andThen_ok]
            rfl
          · exact hh.setIter hr hl (Heap.next_put _ _ _) (fun z => Heap.get_put _ _ _ _) (fun f => Heap.members_put _ _ _ _)
        · rename_i hlt
          cases hv
          rw [bl_length] at hlt
          refine ⟨_, w, ρ, ?_, .refl _ _ _ _, hh, LR.tuple (l := [.bool false]) (l' := [.bool false]) (.cons (.bool _) (.nil _))⟩
          simp only [Instr.next, Nat.add_zero, Sem.run_bind, hget, Result.andThen_ok, Sem.run_ite]
          rw [if_neg hlt]
          rfl
    · cases hv
  · cases hv

theorem run_loadBytes {b o : Nat} : ∀ (ns : List Int) (i : Nat) (acc : ByteArray), (∀ (k : Nat) (v : Value), (ns.map (Value.int .u8))[k]? = some v → w.cell? ⟨b, o + i + k, none⟩ = some v) →
    ∃ r, (loadBytes ⟨b, o + i, none⟩ acc ns.length).run P w = .ok r w ∧ r.data.toList = acc.data.toList ++ ns.map fun n => UInt8.ofNat n.toNat := by
  intro ns
  induction ns with
  | nil => intro i acc _; exact ⟨acc, rfl, by simp⟩
  | cons n ns ih =>
    intro i acc hc
    have h0 := hc 0 (.int .u8 n) (by simp)
    simp only [Nat.add_zero] at h0
    obtain ⟨r, h1, h2⟩ := ih (i + 1) (acc.push n.toNat.toUInt8) (fun k v hv => by
      have := hc (k + 1) v (by simpa using hv)
      rw [← this]; congr 2; omega)
    refine ⟨r, ?_, ?_⟩
    · simp only [List.length_cons, loadBytes, Sem.run_bind, run_load, h0, Result.andThen_ok, add_eq]
      exact h1
    · rw [h2]
      have : (acc.push n.toNat.toUInt8).data.toList = acc.data.toList ++ [n.toNat.toUInt8] := by
        cases acc; simp [ByteArray.push]
      rw [this]
      simp [List.append_assoc]

theorem unsafeString_eq (ts : Array TypeId) (ty : TypeId) (p : Option Addr) (len_ : Value) : Builtin.unsafeString_ ts ty #[.pointer p, len_] = (do
  let n ← asInt len_
  let some pt := ts[0]? | stuck "unsafe.String: no argument types"
  if n < 0 then runtimePanic (.error "unsafe.String: len out of range")
  if n > IntKind.i64.max then unsupported (.unsafePointer "String: a length above the largest int")
  match p with
  | none =>
    if n = 0 then pure (.string .empty)
    else runtimePanic (.error "unsafe.String: ptr is nil and len is not zero")
  | some a =>
    if n = 0 then pure (.string .empty)
    else if ← variablesAt a (← elemOf pt) n.toNat then do
      let s ← loadBytes a .empty n.toNat
      freeze a n.toNat
      pure (.string s)
    else unsupported (.unsafePointer "String: not so many bytes at ptr")) := rfl

/-- A row that nobody writes to any more; its mark has turned. -/
theorem HR.hold (hh : HR NG B ρ h w) {x : Nat} {b : Blk} {l : Loc} {c : Array Value} {fr fr' : Nat × Nat} (hx : h.get x = some (.cells b)) (hl : ρ x = some l) (hg : w.heap[l.b]? = some (.cells c b.elem fr)) :
    HR NG B ρ ((h.only b.fam x).put x (.cells { b with ro := true })) (setBlk w l.b (.cells c b.elem fr')) := by
  have hon := hh.only b.fam x
  have hget : ∀ z, ((h.only b.fam x).put x (.cells { b with ro := true })).get z = if z = x then some (.cells { b with ro := true }) else (h.only b.fam x).get z := fun z => Heap.get_put _ _ _ _
  have hold : ∀ z bz, z ≠ x → (h.only b.fam x).get z = some (.cells bz) → h.get z = some (.cells bz) ∧ bz.fam ≠ b.fam := by
    intro z bz hzx hz
    rw [Heap.get_only] at hz
    split at hz
    · cases hz
    · rename_i hn
      refine ⟨hz, fun e => hn ⟨?_, hzx⟩⟩
      obtain ⟨_, _, _, _, hm, _⟩ := hh.cells z bz hz
      rw [← e]; exact hm
  obtain ⟨l0, q1, q2, q3, q4, q5⟩ := hh.cells x b hx
  rw [hl] at q1; cases q1
  have hmem : ∀ z f, z ∈ (h.only b.fam x).members f → z ∈ ((h.only b.fam x).put x (.cells { b with ro := true })).members f := fun z f hz => hz
  exact {
    dom := fun y ly hy => by rw [setBlk_size, Heap.next_put]; exact hon.dom y ly hy
    cells := fun y bY hy => by
      rw [hget] at hy
      by_cases e : y = x
      · subst e
        simp only [if_true, Option.some.injEq, AO.cells.injEq] at hy
        subst hy
        obtain ⟨⟨c2, fr2, g1, g2, g3, g4⟩, g5, g6, g7, g8⟩ := q2
        rw [hg] at g1
        injection g1 with g1
        injection g1 with e1 e2 _
        subst e1
        exact ⟨l, hl, ⟨⟨c, fr', setBlk_same _ _ _ (hh.dom y l hl).2, g2, fun h => (by cases h), g4⟩, g5, g6, g7, g8⟩, fun h => (by cases h), hmem _ _ (Heap.members_only _ _ _ _ _ q4 (by simp)), q5⟩
      · rw [if_neg e] at hy
        obtain ⟨hy0, hfam⟩ := hold y bY e hy
        obtain ⟨ly, h1, h2, h3, h4, h5⟩ := hon.cells y bY hy
        refine ⟨ly, h1, ?_, h3, hmem _ _ h4, h5⟩
        by_cases eb : ly.b = l.b
        · rcases hh.sepC y x bY b ly l hy0 hx h1 hl eb with h6 | h6
          · exact absurd h6 hfam
          · obtain ⟨⟨c2, fr2, g1, g2, g3, g4⟩, g5, g6, g7, g8⟩ := h2
            rw [eb, hg] at g1
            injection g1 with g1
            injection g1 with e1 e2 _
            subst e1
            exact ⟨⟨c, fr', by rw [eb, ← e2]; exact setBlk_same _ _ _ (hh.dom x l hl).2, g2, fun h => (by rw [h6.1] at h; cases h), g4⟩, g5, g6, g7, g8⟩
        · exact h2.world (setBlk_ne _ _ _ _ eb)
    iter := fun y s p hy => by
      rw [hget] at hy
      by_cases e : y = x
      · subst e; simp at hy
      · rw [if_neg e] at hy
        obtain ⟨ly, h1, h2, h3⟩ := hon.iter y s p hy
        refine ⟨ly, h1, ?_, h3⟩
        rw [setBlk_ne _ _ _ _ (fun e => by rw [e, hg] at h2; cases h2)]
        exact h2
    sepC := fun y z bY bz ly lz hy hz hly hlz heq => by
      rw [hget] at hy hz
      by_cases e : y = x
      · subst e
        simp only [if_true, Option.some.injEq, AO.cells.injEq] at hy
        subst hy
        by_cases e' : z = y
        · subst e'
          simp only [if_true, Option.some.injEq, AO.cells.injEq] at hz
          exact .inl (hz ▸ rfl)
        · rw [if_neg e'] at hz
          obtain ⟨hz0, hfam⟩ := hold z bz e' hz
          rcases hh.sepC y z b bz ly lz hx hz0 hly hlz heq with h6 | h6
          · exact .inl h6
          · exact .inr ⟨rfl, h6.2⟩
      · rw [if_neg e] at hy
        by_cases e' : z = x
        · subst e'
          simp only [if_true, Option.some.injEq, AO.cells.injEq] at hz
          subst hz
          obtain ⟨hy0, hfam⟩ := hold y bY e hy
          rcases hh.sepC y z bY b ly lz hy0 hx hly hlz heq with h6 | h6
          · exact .inl h6
          · exact .inr ⟨h6.1, rfl⟩
        · rw [if_neg e'] at hz
          exact hon.sepC y z bY bz ly lz hy hz hly hlz heq
    sepI := fun y z s p s' p' ly lz hy hz hly hlz heq => by
      rw [hget] at hy hz
      by_cases e : y = x
      · subst e; simp at hy
      · rw [if_neg e] at hy
        by_cases e' : z = x
        · subst e'; simp at hz
        · rw [if_neg e'] at hz; exact hon.sepI y z s p s' p' ly lz hy hz hly hlz heq
    glob := hon.glob
    next := by rw [Heap.next_put]; exact hon.next
    room := by rw [setBlk_size]; exact hon.room }

theorem stringV_sound (hh : HR NG B ρ h w) {ts : Array TypeId} {ty : TypeId} {args args' : List Value} {v : Value} {h' : Heap} (hv : stringV P ts args h = some (v, h')) (ha : LR ρ args args') :
    Res NG B ρ h w ((Builtin.unsafeString_ ts ty args'.toArray).run P w) v h' := by
  unfold stringV at hv
  split at hv
  · rename_i pt p k n hs0
    obtain ⟨p', t1, rfl, hp', ht1⟩ := ha.cons_inv
    obtain ⟨n', t2, rfl, hn', ht2⟩ := ht1.cons_inv
    cases ht2.nil_inv
    cases hn'
    split at hv
    · cases hv
    · rename_i hc
      simp only [not_or, Int.not_lt] at hc
      have hn0 : ¬ n < 0 := by omega
      split at hv
      · split at hv
        · rename_i h0
          cases hv
          cases hp'
          subst h0
          exact ⟨_, w, ρ, by simp [unsafeString_eq, asInt, asIntOf, hs0], .refl _ _ _ _, hh, .string _⟩
        · cases hv
      · rename_i a
        split at hv
        · rename_i h0
          cases hv
          subst h0
          cases hp' with
          | ptr x o l hl => exact ⟨_, w, ρ, by simp [unsafeString_eq, asInt, asIntOf, hs0], .refl _ _ _ _, hh, .string _⟩
        · rename_i h0
          split at hv
          · rename_i e b hu hb _
            split at hv
            · cases hv
            · rename_i hcond
              simp only [not_or, ne_eq, Decidable.not_not] at hcond
              split at hv
              · rename_i he
                simp only [Option.bind_eq_bind, Option.bind_eq_some_iff] at hv
                obtain ⟨r, hr, s, hs, hv⟩ := hv
                cases hv
                cases hp' with
                | ptr x o l hl =>
                  have hbx := blk_some hb
                  simp only at hbx hr hs ⊢
                  obtain ⟨l0, q1, q2, q3, q4, q5⟩ := hh.cells x b hbx
                  rw [hl] at q1; cases q1
                  obtain ⟨⟨c, fr, g1, g2, g3, g4⟩, g5, g6, g7, g8⟩ := q2
                  have hread : h.read x o n.toNat = some r := by unfold Heap.read; rw [hb]; exact hr
                  obtain ⟨r', p1, p2, p3⟩ := read_sound hh hread hl
                  obtain ⟨ns, rfl, rfl⟩ := bytesOf_eq _ hs
                  have := LR.ints ns p1
                  subst this
                  obtain ⟨hcond1, hcond2, hcond3, hcond4⟩ := hcond
                  have hcond4 : b.ro = false := by simpa using hcond4
                  subst hcond1
                  obtain ⟨_, hmx, _, _⟩ := take_drop_get hr
                  have hnpos : 0 < n.toNat := by omega
                  have hin : l.base + o + n.toNat * 1 ≤ c.size := by
                    rw [g2]
                    have := (takeN_eq _ _ _ hr).2
                    rw [dropN_eq, List.length_drop] at this
                    omega
                  have hva := variablesAt_self (P := P) (w := w) (n := n.toNat) (off := l.base + o) g1 hcond3 (by omega) (Nat.mod_one _) hin
                  obtain ⟨S, hS1, hS2⟩ := run_loadBytes (P := P) (w := w) (b := l.b) (o := l.base + o) ns 0 .empty (fun k v hv => by
                    have := p3 k v hv
                    simpa using this)
                  simp only [Nat.add_zero, List.length_map] at hS1 p2
                  rw [p2] at hS1
                  have hSeq : S = ⟨(ns.map fun n => UInt8.ofNat n.toNat).toArray⟩ := by
                    cases S
                    congr 1
                    apply Array.ext'
                    have e0 : ByteArray.empty.data.toList = [] := rfl
                    rw [e0] at hS2
                    simpa using hS2
                  have hel : (elemOf pt).run P w = .ok b.elem w := by simp [elemOf, run_und hu]
                  have hfz : ∃ fr', w.freeze ⟨l.b, l.base + o, none⟩ n.toNat = setBlk w l.b (.cells c b.elem fr') := by
                    refine ⟨if fr.1 == fr.2 then (l.base + o, l.base + o + n.toNat) else (min fr.1 (l.base + o), max fr.2 (l.base + o + n.toNat)), ?_⟩
                    have hlt : l.b < w.heap.size := (Array.getElem?_eq_some_iff.1 g1).1
                    have hge : w.heap[l.b] = .cells c b.elem fr := (Array.getElem?_eq_some_iff.1 g1).2
                    unfold World.freeze setBlk
                    rw [if_neg (by omega)]
                    congr 1
                    apply Array.ext
                    · simp
                    · intro k h1 h2
                      simp only [Array.size_modify] at h1
                      rw [Array.getElem_modify, Array.getElem_setIfInBounds (by simpa using h2)]
                      by_cases hk : l.b = k
                      · rw [if_pos hk, if_pos hk]
                        have : w.heap[k] = .cells c b.elem fr := by rw [← hge]; congr 1; exact hk.symm
                        rw [this]
                      · rw [if_neg hk, if_neg hk]
                  obtain ⟨fr', hfz⟩ := hfz
                  refine ⟨.string S, setBlk w l.b (.cells c b.elem fr'), ρ, ?_, ?_, ?_, by rw [hSeq]; exact .string _⟩
                  · simp [unsafeString_eq, asInt, asIntOf, hs0, hn0, h0, hel, hva, hS1, hfz]
                    omega
                  · exact Step.setBlk_step (.inl ⟨b, hbx, hcond4⟩) hl _ (by rw [Heap.next_put, Heap.next_only]; exact Nat.le_refl _) (fun z =>
                      both_trans (alive_put (.inl ⟨b, by rw [Heap.get_only, if_neg (by simp)]; exact hbx, hcond4⟩) z) (alive_only _ _ z))
                  · exact hh.hold hbx hl g1
              · cases hv
          · cases hv
  · cases hv
/-! ### all of them -/
/-- What a contract of a callee says. -/
def KOK (P : Program) (NG B : Nat) (J : Map → Heap → World → Prop) (k : Caller) : Prop :=
  ∀ f args h v h', k f args h = some (v, h') → ∀ ρ w cargs, HR NG B ρ h w → J ρ h w → LR ρ args cargs →
    Calls P f cargs.toArray w fun e w' => ∃ v' ρ', e = .returned v' ∧ Step h.next ρ h w ρ' h' w' ∧ HR NG B ρ' h' w' ∧ VR ρ' v v'

/-- A property of what there is that no step takes away. -/
def JC (J : Map → Heap → World → Prop) : Prop := ∀ n ρ h w ρ' h' w', Step n ρ h w ρ' h' w' → J ρ h w → J ρ' h' w'

/-- Functions without a Go body do what is said of them. -/
def XOK (P : Program) : Prop := ∀ (f : FuncId) (fn : Func), P.funcs[f]? = some fn → fn.body = none → ∀ args h v h', extern fn.name args h = some (v, h') → ∀ NG B ρ w cargs, HR NG B ρ h w → LR ρ args cargs →
    ∃ v' w' ρ', (callFunc f cargs.toArray).run P w = .ok (.value v') w' ∧ Step h.next ρ h w ρ' h' w' ∧ HR NG B ρ' h' w' ∧ VR ρ' v v'

/-- No function with a body bears the one name that the model takes for itself. -/
def NOK (P : Program) : Prop := ∀ (f : FuncId) (fn : Func), P.funcs[f]? = some fn → fn.body.isSome = true → (fn.name == "runtime.NumGoroutine") = false

/-- An operation comes to what follows. -/
def OpOK (P : Program) (NG B : Nat) (ρ : Map) (h : Heap) (w : World) (o : Oper) (a : Act) (v : Value) (h' : Heap) : Prop :=
  ∀ (K : Act → World → Prop) (Q : Exit → Act → World → Prop), (∀ ρ' w' v', Step h.next ρ h w ρ' h' w' → HR NG B ρ' h' w' → VR ρ' v v' → K (a.put o.dst v') w') → o.wp P a w K Q

theorem OpOK.of_res {o : Oper} {a : Act} {v : Value} {h' : Heap} {r : Result Value} (hr : Res NG B ρ h w r v h') (he : ∀ v' w', r = .ok v' w' → (execOp a.eval o).run P w = .ok (.value v') w') : OpOK P NG B ρ h w o a v h' := by
  obtain ⟨v', w', ρ', h1, h2, h3, h4⟩ := hr
  intro K Q hK
  unfold Oper.wp
  rw [he v' w' h1]
  exact hK ρ' w' v' h2 h3 h4

theorem effect_sound (hx : XOK P) (hN : NOK P) {J : Map → Heap → World → Prop} {k : Caller} (hk : KOK P NG B J k) (hh : HR NG B ρ h w) (hJ : J ρ h w) {o : Oper} {ev : Operand → Value} {a : Act} {v : Value} {h' : Heap} (he : effect P k o ev h = some (v, h'))
    (hv : ∀ x, x ∈ o.op.operands → VR ρ (ev x) (a.eval x)) : OpOK P NG B ρ h w o a v h' := by
  unfold effect at he
  split at he
  · rename_i t l c ho
    exact .of_res (makeSliceV_sound hh he (hv l (by simp [ho, Op.operands])) (hv c (by simp [ho, Op.operands]))) fun v' w' hr => by simp [execOp, ho, hr]
  · rename_i t A V ho
    simp only [Option.map_eq_some_iff] at he
    obtain ⟨h2, hs, heq⟩ := he
    cases heq
    obtain ⟨w', g1, g2, g3⟩ := storeV_sound (P := P) hh hs (hv A (by simp [ho, Op.operands])) (hv V (by simp [ho, Op.operands]))
    intro K Q hK
    unfold Oper.wp
    have : (execOp a.eval o).run P w = .ok .skip w' := by simp [execOp, ho, g1]
    rw [this]
    exact hK ρ w' undef g2 g3 (VR.undef _)
  · rename_i s d x ho
    exact .of_res (convE_sound hh he (hv x (by simp [ho, Op.operands]))) fun v' w' hr => by simp [execOp, ho, hr]
  · rename_i t x ho
    exact .of_res (rangeV_sound hh he (hv x (by simp [ho, Op.operands]))) fun v' w' hr => by simp [execOp, ho, hr]
  · rename_i it s ho
    exact .of_res (nextV_sound (P := P) (ty := o.type) hh he (hv it (by simp [ho, Op.operands]))) fun v' w' hr => by simp [execOp, ho, hr]
  · rename_i args ts ho
    have hl : LR ρ (args.toList.map ev) (args.toList.map a.eval) := .of_map _ _ _ fun b hb => hv b (by rw [ho]; simpa [Op.operands, Call.operands] using hb)
    refine .of_res (appendV_sound (ty := o.type) hh he hl) fun v' w' hr => ?_
    rw [run_builtin ho]
    have e : (args.toList.map a.eval).toArray = args.map a.eval := by apply Array.ext'; simp
    rw [e] at hr
    simp [builtin, hr]
  · rename_i args ts ho
    have hl : LR ρ (args.toList.map ev) (args.toList.map a.eval) := .of_map _ _ _ fun b hb => hv b (by rw [ho]; simpa [Op.operands, Call.operands] using hb)
    refine .of_res (copyV_sound (ty := o.type) hh he hl) fun v' w' hr => ?_
    rw [run_builtin ho]
    have e : (args.toList.map a.eval).toArray = args.map a.eval := by apply Array.ext'; simp
    rw [e] at hr
    simp [builtin, hr]
  · rename_i args ts ho
    have hl : LR ρ (args.toList.map ev) (args.toList.map a.eval) := .of_map _ _ _ fun b hb => hv b (by rw [ho]; simpa [Op.operands, Call.operands] using hb)
    refine .of_res (stringV_sound (ty := o.type) hh he hl) fun v' w' hr => ?_
    rw [run_builtin ho]
    have e : (args.toList.map a.eval).toArray = args.map a.eval := by apply Array.ext'; simp
    rw [e] at hr
    simp [builtin, hr]
  · rename_i f args ts ho
    have hl : LR ρ (args.toList.map ev) (args.toList.map a.eval) := .of_map _ _ _ fun b hb => hv b (by rw [ho]; simp only [Op.operands, Call.operands, Array.mem_append]; exact .inr (by simpa using hb))
    have hf := hv f (by simp [ho, Op.operands, Call.operands])
    unfold callV at he
    split at he
    · rename_i F first captured hev
      rw [hev] at hf
      generalize hcf : a.eval f = z at hf
      cases hf with
      | func _ _ _ first' captured' s1 s2 r1 r2 =>
        have hfirst : LR ρ first.toList first'.toList := ⟨by simpa using s1, fun i x y hx hy => r1 i x y (by simpa using hx) (by simpa using hy)⟩
        have hcapt : LR ρ captured.toList captured'.toList := ⟨by simpa using s2, fun i x y hx hy => r2 i x y (by simpa using hx) (by simpa using hy)⟩
        have hall := (hfirst.append hl).append hcapt
        have hrun : (execOp a.eval o).run P w = (callFunc F ((first'.toList ++ args.toList.map a.eval) ++ captured'.toList).toArray).run P w := by
          have e : ((first'.toList ++ args.toList.map a.eval) ++ captured'.toList).toArray = first' ++ args.map a.eval ++ captured' := by
            apply Array.ext'; simp
          rw [e]
          simp only [execOp, ho, resolve, hcf, Deferred.ofValue, Sem.run_bind, Sem.run_pure, Result.andThen_ok, invoke]
        unfold callF at he
        split at he
        · rename_i fn hfn
          split at he
          · rename_i hb
            have hnn := hN F fn hfn hb
            have hbn : fn.body.isNone = false := by cases hbb : fn.body <;> simp [hbb] at hb ⊢
            have hrun2 : (callFunc F ((first'.toList ++ args.toList.map a.eval) ++ captured'.toList).toArray).run P w = .ok (.enter F ((first'.toList ++ args.toList.map a.eval) ++ captured'.toList).toArray) w := by
              simp only [callFunc, Sem.run_bind, run_program, Result.andThen_ok, hfn, hnn, hbn, Bool.false_eq_true, if_false]
              rfl
            intro K Q hK
            unfold Oper.wp
            rw [hrun, hrun2, Oper.upon_enter]
            refine (hk F _ h v h' he ρ w _ hh hJ hall).mono ?_
            rintro e w' ⟨v', ρ', rfl, g1, g2, g3⟩
            exact hK ρ' w' v' g1 g2 g3
          · rename_i hb
            have hbn : fn.body = none := by simpa using hb
            obtain ⟨v', w', ρ', g1, g2, g3, g4⟩ := hx F fn hfn hbn _ h v h' he NG B ρ w _ hh hall
            intro K Q hK
            unfold Oper.wp
            rw [hrun, g1]
            exact hK ρ' w' v' g2 g3 g4
        · cases he
    · cases he
  · cases he
end
end Go.AX
