/- A part of the proof that rubriclaw22.PathRead returns true for every text. -/
import Derived.Test.YtgaefkhmibhhoaaGreatDoorAxStore
import Derived.Laws.Append
set_option linter.unusedSimpArgs false
set_option linter.unusedVariables false
namespace Go.AX
open Go
section
variable {P : Program} {w : World} {NG B : Nat} {ρ : Map} {h : Heap}

def Res (NG B : Nat) (ρ : Map) (h : Heap) (w : World) (r : Result Value) (v : Value) (h' : Heap) : Prop :=
  ∃ v' w' ρ', r = .ok v' w' ∧ Step h.next ρ h w ρ' h' w' ∧ HR NG B ρ' h' w' ∧ VR ρ' v v'

theorem HR.none_next (hh : HR NG B ρ h w) {x : Nat} (hx : h.next ≤ x) : ρ x = none := by
  cases e : ρ x with
  | none => rfl
  | some l => have := (hh.dom x l e).1; omega

theorem row_sound (hh : HR NG B ρ h w) {n : New} {c : Array Value} {fr : Nat × Nat} {d : Nat} (hfr : fr.1 = fr.2 ∨ c.size ≤ fr.1) (hc : LR ρ n.cells (c.toList.take n.cells.length)) (hsz : n.cells.length ≤ c.size) :
    HR NG B (upd ρ h.next ⟨w.heap.size, 0, c.size, n.es, n.cells.length⟩) (h.row n.cells n.elem n.es).2 { w with heap := w.heap.push (.cells c n.elem fr), drawn := d } ∧
    Step h.next ρ h w (upd ρ h.next ⟨w.heap.size, 0, c.size, n.es, n.cells.length⟩) (h.row n.cells n.elem n.es).2 { w with heap := w.heap.push (.cells c n.elem fr), drawn := d } := by
  have hnone := hh.none_next (Nat.le_refl h.next)
  have h1 : HR NG B ρ { h with next := h.next + 1 } { w with heap := w.heap.push (.cells c n.elem fr), drawn := d } := by
    have h2 : HR NG B ρ h { w with heap := w.heap.push (.cells c n.elem fr), drawn := d } := hh.world (by simp) fun x l hx => by
      have := (hh.dom x l hx).2
      simp only [Array.getElem?_push]; rw [if_neg (by omega)]
    exact h2.weaken (by simp) (fun z o hz => .inl hz) (fun z b _ hm => hm)
  have hw : (w.heap.size : Nat) < ({ w with heap := w.heap.push (.cells c n.elem fr), drawn := d } : World).heap.size := by simp
  constructor
  · have h2 := (h1.extend (x := h.next) (l := ⟨w.heap.size, 0, c.size, n.es, n.cells.length⟩) hnone (by simp) hw).live (n := n) (c := c) (fr := fr) (upd_same _ _ _) rfl (by simp) hfr (hc.mono (Ext.upd _ hnone)) hsz hh.room (fun z l hz hl e => by
      have hzn : z ≠ h.next := by
        rintro rfl
        rcases hz with ⟨b, hb⟩ | ⟨s, p, hb⟩
        · obtain ⟨l2, h3, _⟩ := hh.cells h.next b hb; rw [hnone] at h3; cases h3
        · obtain ⟨l2, h3, _⟩ := hh.iter h.next s p hb; rw [hnone] at h3; cases h3
      rw [upd_ne _ _ hzn] at hl
      have := (hh.dom z l hl).2
      omega)
    refine h2.weaken (by simp [Heap.row, Heap.lay, Heap.next_setMembers, Heap.next_put, Heap.next_push]) (fun z o hz => .inl hz) (fun z b hz hm => ?_)
    have hz' : z ≠ h.next → h.get z = some (.cells b) := fun e => by
      simp only [Heap.row, Heap.get_setMembers, Heap.get_push] at hz
      rwa [if_neg e] at hz
    simp only [Heap.row, Heap.members_set, Heap.members_push]
    simp only [Heap.lay, Heap.members_set, Heap.members_put] at hm
    split
    · rename_i ef
      by_cases ez : z = h.next
      · simp [ez]
      · obtain ⟨_, _, _, _, _, hf⟩ := hh.cells z b (hz' ez)
        rw [ef] at hf
        exact absurd hnone hf
    · rename_i ef
      rw [if_neg ef] at hm
      exact hm
  · exact Step.upd hnone (Nat.le_refl _) (by simp only [Heap.row, Heap.next_setMembers, Heap.next_push]; omega) (fun z hz => alive_get (o := .cells ⟨n.cells, n.elem, n.es, h.next, false⟩) (fun z => by simp only [Heap.row, Heap.get_setMembers, Heap.get_push]) hz) (.inl (Nat.le_refl _)) (by simp) rfl rfl rfl (fun b hb _ => by
      simp only [Array.getElem?_push]; rw [if_neg (by omega)])

theorem lenOf_sound {x x' : Value} {n : Nat} (hn : AX.lenOf x = some n) (hx : VR ρ x x') : (Builtin.lenOf x').run P w = .ok n w ∧ (∀ a l c, x = .slice a l c → n = l) := by
  unfold AX.lenOf at hn
  split at hn
  · cases hn; cases hx <;> exact ⟨rfl, by rintro _ _ _ ⟨⟩; rfl⟩
  · cases hn; cases hx; exact ⟨by rw [bl_length]; rfl, by rintro _ _ _ ⟨⟩⟩
  · cases hn

theorem firstOf_sound (hh : HR NG B ρ h w) {x x' : Value} {size n : Nat} {r : List Value} (hr : firstOf h size n x = some r) (hx : VR ρ x x') (hn : ∀ a l c, x = .slice a l c → n ≤ l) :
    ∃ r', (∀ d, (Builtin.firstCells size n x').run P { w with drawn := d } = .ok r'.toArray { w with drawn := d }) ∧ LR ρ r r' := by
  unfold firstOf at hr
  split at hr
  · rename_i a l c
    split at hr
    · cases hr
    · cases hx with
      | slice x o L _ _ cap' a' hl hcap hlen haddr =>
        obtain ⟨r', h1, h2, h3⟩ := read_sound hh hr hl
        refine ⟨r', ?_, h1⟩
        by_cases h0 : cap' = 0
        · have e0 : n = 0 := by have := hn _ _ _ rfl; omega
          subst e0
          have : r' = [] := by
            have e1 := h1.1
            rw [h2] at e1
            cases r' with
            | nil => rfl
            | cons a b => simp at e1
          subst this
          intro d; simp [Builtin.firstCells, loadCells, loadCellsFrom]
        · obtain ⟨ha, _⟩ := haddr h0
          subst ha
          intro d; exact run_loadCells_of (w := { w with drawn := d }) (h1.1.symm.trans h2) h3
  · split at hr
    · rename_i h0; cases hr; cases hx; subst h0; exact ⟨[], fun _ => rfl, .nil _⟩
    · cases hr
  · rename_i s
    cases hr
    cases hx
    refine ⟨((bl s).take n).map fun b => .int .u8 b.toNat, ?_, .of_map _ _ _ fun _ _ => .int _ _⟩
    · intro d
      simp only [Builtin.firstCells]
      have : (s.extract 0 n).data.toList = (bl s).take n := by
        have := string_extract (s := s) (l := 0) (n := n)
        simp only [List.drop_zero, Nat.zero_add] at this
        rw [← this]
      refine congrArg (Result.ok · { w with drawn := d }) ?_
      apply Array.ext'
      rw [Array.toList_map, this]
  · cases hr

theorem LR.oneCells {l l' : List Value} (hl : LR ρ l l') (h1 : l.all AX.oneCell = true) : ∀ v, v ∈ l' → v.oneCell' = true := by
  intro v hv
  obtain ⟨i, hi⟩ := List.getElem?_of_mem hv
  have hlt : i < l.length := by have := hl.1; have := (List.getElem?_eq_some_iff.1 hi).1; omega
  have := hl.2 i l[i] v (by simp [hlt]) hi
  rw [this.oneCell]
  exact List.all_eq_true.1 h1 _ (List.getElem_mem hlt)

/-- An append that makes a row: whatever its capacity. -/
theorem append_new (hh : HR NG B ρ h w) {e : TypeId} {cells cells' : List Value} {need newCap size : Nat} {z : Value} {d : Nat} (hc : LR ρ cells cells') (hlen : cells.length = need * size) (hcap : need ≤ newCap) (hz : z.cells.size = size) :
    let c := cells'.toArray ++ Builtin.zeroCells z.cells (newCap - need)
    let ρ' := upd ρ h.next ⟨w.heap.size, 0, c.size, size, cells.length⟩
    HR NG B ρ' (h.row cells e size).2 { w with heap := w.heap.push (.cells c e), drawn := d } ∧ Step h.next ρ h w ρ' (h.row cells e size).2 { w with heap := w.heap.push (.cells c e), drawn := d } ∧
    VR ρ' (.slice (some ⟨h.next, 0, none⟩) need need) (.slice (some ⟨w.heap.size, 0, none⟩) need newCap) := by
  intro c ρ'
  have hl' := hc.1
  have hcs : c.size = newCap * size := by
    simp only [c, Array.size_append, List.size_toArray, Builtin.zeroCells, Array.size_map, Array.size_range]
    rw [← hl', hlen, hz, ← Nat.add_mul]
    congr 1; omega
  obtain ⟨h1, h2⟩ := row_sound (n := ⟨cells, e, size, none⟩) (c := c) (fr := (0, 0)) (d := d) hh (.inl rfl) (by
    have : c.toList.take cells.length = cells' := by
      simp only [c, Array.toList_append]
      rw [List.take_append_of_le_length (by omega), List.take_of_length_le (by omega)]
    rw [this]; exact hc) (by rw [hcs, hlen]; exact Nat.mul_le_mul_right _ hcap)
  refine ⟨h1, h2, ?_⟩
  exact .slice h.next 0 _ need need newCap ⟨w.heap.size, 0, none⟩ (upd_same _ _ _) hcap hcap (fun _ => ⟨by simp, by dsimp only; omega⟩) (.inr (by dsimp only; omega))

theorem grow_inv {x o n y : Nat} {new : List Value} {h' : Heap} (hg : h.grow x o n new = some (y, h')) :
    ∃ b old, h.get x = some (.cells b) ∧ b.ro = false ∧ o % b.es = 0 ∧ o + n = b.cells.length ∧ takeN n (dropN o b.cells) = some old ∧ y = h.next ∧
      h'.next = h.next + 1 ∧ (∀ z, h'.get z = if z = h.next then some (.cells ⟨old ++ new, b.elem, b.es, b.fam, false⟩) else (h.only b.fam x).get z) ∧
      (∀ f, h'.members f = if f = b.fam then [x, h.next] else (h.only b.fam x).members f) := by
  unfold Heap.grow at hg
  split at hg
  · rename_i b hb
    split at hg
    · cases hg
    · rename_i hc
      simp only [Bool.or_eq_true, not_or, Bool.not_eq_true, bne_eq_false_iff_eq, Bool.not_eq_false'] at hc
      split at hg
      · rename_i old hold
        cases hg
        refine ⟨b, old, blk_some hb, hc.1.1, hc.1.2, Nat.eq_of_beq_eq_true hc.2, hold, Heap.next_only _ _ _, ?_, fun z => ?_, fun f => ?_⟩
        · rw [Heap.next_setMembers, Heap.next_push, Heap.next_only]
        · rw [Heap.get_setMembers, Heap.get_push, Heap.next_only]
        · rw [Heap.members_set, Heap.members_push, Heap.next_only]
      · cases hg
  · cases hg

theorem grow_add (hh : HR NG B ρ h w) {w1 : World} {x o n y : Nat} {new : List Value} {h' : Heap} (hg : h.grow x o n new = some (y, h')) {b : Blk} {old : List Value} (hb : h.get x = some (.cells b)) (hold : takeN n (dropN o b.cells) = some old)
    (h1 : HR NG B ρ (h.only b.fam x) w1) {l' : Loc} (hl' : BlkR ρ w1 l' ⟨old ++ new, b.elem, b.es, b.fam, false⟩) (hB : B ≤ l'.b)
    (hsep : ∀ z bz lz, h.get z = some (.cells bz) → ρ z = some lz → lz.b = l'.b → bz.fam = b.fam) : HR NG B (upd ρ y l') h' w1 := by
  obtain ⟨b2, old2, q1, q2, q3, q4, q5, q6, q7, q8, q9⟩ := grow_inv hg
  rw [hb] at q1; cases q1
  rw [hold] at q5; cases q5
  subst q6
  have hget : ∀ z bz, (h.only b.fam x).get z = some (.cells bz) → h.get z = some (.cells bz) ∧ (z ∈ h.members b.fam → z = x) := by
    intro z bz hz
    rw [Heap.get_only] at hz
    split at hz
    · cases hz
    · rename_i hn
      exact ⟨hz, fun hm => Classical.byContradiction fun e => hn ⟨hm, e⟩⟩
  obtain ⟨_, _, _, _, hmx, hfx⟩ := hh.cells x b hb
  refine h1.add (b := ⟨old ++ new, b.elem, b.es, b.fam, false⟩) (hh.none_next (Nat.le_refl _)) (by rw [Heap.next_only, q7]; omega) (by rw [q7]; omega) q8 (fun z bz hz hm => ?_) (by rw [q9]; simp) (.inr hfx) hl' (fun _ => hB) (fun z bz lz hz hlz e => hsep z bz lz (hget z bz hz).1 hlz e)
  rw [q9]
  split
  · rename_i e
    obtain ⟨_, _, _, _, hmz, _⟩ := hh.cells z bz (hget z bz hz).1
    rw [e] at hmz
    simp [(hget z bz hz).2 hmz]
  · exact hm

theorem grow_in (hh : HR NG B ρ h w) {x o n y : Nat} {new new' : List Value} {h' : Heap} {l : Loc} (hg : h.grow x o n new = some (y, h')) (hl : ρ x = some l) (hn : LR ρ new new') (hone : ∀ v, v ∈ new' → v.oneCell' = true)
    (hroom : l.base + o + n + new.length ≤ l.size) : ∃ w', (storeCells ⟨l.b, l.base + o + n, none⟩ new').run P w = .ok () w' ∧ HR NG B (upd ρ y ⟨l.b, l.base + o, l.size, l.es, n + new.length⟩) h' w' ∧
      Step h.next ρ h w (upd ρ y ⟨l.b, l.base + o, l.size, l.es, n + new.length⟩) h' w' := by
  obtain ⟨b, old, q1, q2, q3, q4, q5, q6, q7, q8, q9⟩ := grow_inv hg
  obtain ⟨l', hl', hbr, hB, hmem, hfam⟩ := hh.cells x b q1
  rw [hl] at hl'; cases hl'
  obtain ⟨⟨c, fr, h1, h2, h3, h4⟩, h5, h6, h7, h8⟩ := hbr
  have hlen := hn.1
  obtain ⟨c', r1, r2, r3⟩ := run_storeCells (P := P) (g := l.b) (p := l.base + o + n) (e := b.elem) (fr := fr) new' 0 c w h1 hone (.inl (by omega)) (fun k hk1 hk2 => by have := h3 q2; omega)
  have hon : HR NG B ρ (h.only b.fam x) w := hh.only b.fam x
  have hxo : (h.only b.fam x).get x = some (.cells b) := by rw [Heap.get_only, if_neg (by simp)]; exact q1
  obtain ⟨o1, o2, o3, _⟩ := take_drop_get q5
  have hb' : BlkR ρ (setBlk w l.b (.cells c' b.elem fr)) l b := by
    refine ⟨⟨c', fr, setBlk_same _ _ _ (hh.dom x l hl).2, by rw [r2]; exact h2, h3, fun i v hv => ?_⟩, h5, h6, h7, h8⟩
    have hi : i < b.cells.length := (List.getElem?_eq_some_iff.1 hv).1
    rw [r3, if_neg (by omega)]
    exact h4 i v hv
  have hon' : HR NG B ρ (h.only b.fam x) (setBlk w l.b (.cells c' b.elem fr)) := by
    refine hon.setCells (b := b) (b' := b) hxo hl (fun z bz hz hf => ?_) q2 rfl hb' rfl (fun z => ?_) (fun _ => rfl)
    · rw [Heap.get_only] at hz
      split at hz
      · cases hz
      · rename_i hn2
        obtain ⟨_, _, _, _, hm2, _⟩ := hh.cells z bz hz
        rw [hf] at hm2
        exact Classical.byContradiction fun e => hn2 ⟨hm2, e⟩
    · by_cases e : z = x
      · rw [if_pos e, e]; exact hxo
      · rw [if_neg e]
  refine ⟨_, r1, ?_, ?_⟩
  · refine grow_add hh hg q1 q5 hon' (l' := ⟨l.b, l.base + o, l.size, l.es, n + new.length⟩) ?_ (hB q2) (fun z bz lz hz hlz e => ?_)
    · refine ⟨⟨c', fr, setBlk_same _ _ _ (hh.dom x l hl).2, by rw [r2]; exact h2, fun _ => h3 q2, fun i v hv => ?_⟩, h5, ?_, ?_, ?_⟩
      · simp only at hv ⊢
        rw [List.getElem?_append] at hv
        by_cases hi : i < old.length
        · rw [if_pos hi] at hv
          rw [o3 i (by omega)] at hv
          rw [r3, if_neg (by omega)]
          obtain ⟨v', g1, g2⟩ := h4 _ _ hv
          exact ⟨v', by rw [← g1]; congr 1; omega, g2⟩
        · rw [if_neg hi] at hv
          have hi2 : i - old.length < new.length := (List.getElem?_eq_some_iff.1 hv).1
          rw [r3, if_pos (by omega)]
          obtain ⟨y, g1, g2⟩ := hn.get hv
          exact ⟨y, by rw [← g1]; congr 1; omega, g2⟩
      · simp only
        rw [Nat.add_mod, h6, q3]; simp
      · simp only [List.length_append]
        omega
      · simp only [List.length_append]
        omega
    · simp only at e
      rcases hh.sepC z x bz b lz l hz q1 hlz hl e with h | h
      · exact h
      · rw [q2] at h; cases h.2
  · rw [q6]
    exact Step.upd (hh.none_next (Nat.le_refl _)) (Nat.le_refl _) (by omega) (fun z hz => (alive_get q8 hz).imp id alive_only) (.inr ⟨x, l, .inl ⟨b, q1⟩, hl, rfl⟩) (by rw [setBlk_size]; exact Nat.le_refl _) rfl rfl rfl (fun _ _ hno => setBlk_ne _ _ _ _ (fun e => hno x l (.inl ⟨b, q1⟩) hl e.symm))

theorem grow_out (hh : HR NG B ρ h w) {e : TypeId} {x o n y need newCap size : Nat} {new new' old' : List Value} {h' : Heap} {b : Blk} {z : Value} {d : Nat} (hg : h.grow x o n new = some (y, h')) (hb : h.get x = some (.cells b)) (hn : LR ρ new new')
    (hold : ∀ old, takeN n (dropN o b.cells) = some old → LR ρ old old') (he : b.elem = e) (hes : b.es = size) (hlen : n + new.length = need * size) (hcap : need ≤ newCap) (hz : z.cells.size = size) :
    let c := (old' ++ new').toArray ++ Builtin.zeroCells z.cells (newCap - need)
    let ρ' := upd ρ y ⟨w.heap.size, 0, c.size, size, n + new.length⟩
    HR NG B ρ' h' { w with heap := w.heap.push (.cells c e), drawn := d } ∧ Step h.next ρ h w ρ' h' { w with heap := w.heap.push (.cells c e), drawn := d } ∧
    VR ρ' (.slice (some ⟨y, 0, none⟩) need need) (.slice (some ⟨w.heap.size, 0, none⟩) need newCap) := by
  intro c ρ'
  obtain ⟨b2, old, q1, q2, q3, q4, q5, q6, q7, q8, q9⟩ := grow_inv hg
  rw [hb] at q1; cases q1
  have hold := hold old q5
  obtain ⟨o1, o2, o3, _⟩ := take_drop_get q5
  have hall := hold.append hn
  have hl' := hall.1
  have hcs : c.size = newCap * size := by
    simp only [c, Array.size_append, List.size_toArray, Builtin.zeroCells, Array.size_map, Array.size_range]
    rw [← hl', List.length_append, o1, hlen, hz, ← Nat.add_mul]
    congr 1; omega
  have hw1 : HR NG B ρ (h.only b.fam x) { w with heap := w.heap.push (.cells c e), drawn := d } := (hh.only b.fam x).world (by simp) fun x l hx => by
    have := (hh.dom x l hx).2
    simp only [Array.getElem?_push]; rw [if_neg (by omega)]
  refine ⟨?_, ?_, ?_⟩
  · refine grow_add hh hg hb q5 hw1 (l' := ⟨w.heap.size, 0, c.size, size, n + new.length⟩) ?_ hh.room (fun z bz lz hz hlz e => by have := (hh.dom z lz hlz).2; simp only at e; omega)
    refine ⟨⟨c, (0, 0), by simp [he], rfl, fun _ => .inl rfl, fun i v hv => ?_⟩, hes.symm, by simp, ?_, ?_⟩
    · simp only at hv ⊢
      obtain ⟨y, g1, g2⟩ := hall.get hv
      refine ⟨y, ?_, g2⟩
      have hi : i < (old' ++ new').length := (List.getElem?_eq_some_iff.1 g1).1
      simp only [c, Nat.zero_add]
      rw [Array.getElem?_append_left (by simpa using hi)]
      simpa using g1
    · simp only [List.length_append]
      rw [hcs, o1, hlen]
      have := Nat.mul_le_mul_right size hcap
      omega
    · simp only [List.length_append]
      omega
  · simp only [ρ', q6]
    exact Step.upd (hh.none_next (Nat.le_refl _)) (Nat.le_refl _) (by omega) (fun z hz => (alive_get q8 hz).imp id alive_only) (.inl (Nat.le_refl _)) (by simp) rfl rfl rfl (fun b hb _ => by
      simp only [Array.getElem?_push]; rw [if_neg (by omega)])
  · exact .slice y 0 _ need need newCap ⟨w.heap.size, 0, none⟩ (upd_same _ _ _) hcap hcap (fun _ => ⟨by simp, by dsimp only; omega⟩) (.inr (by dsimp only; omega))

section
variable {ts : Array TypeId} {ty sT xT e : TypeId} {xd : TypeDesc} {i : TypeInfo} {x' : Value} {base' : Option Addr} {sLen cap' n : Nat} {new' : List Value}
  (hs0 : ts[0]? = some sT) (hs1 : ts[1]? = some xT) (hu : P.underlying sT = some (.slice e)) (hxu : P.underlying xT = some xd) (hxd : (∃ e', xd = .slice e') ∨ xd = .string) (hi : P.info? e = some i)
  (hlen : ∀ w, (Builtin.lenOf x').run P w = .ok n w)
include hs0 hs1 hu hxu hxd hi hlen

theorem run_append_in {w' : World} (hnew : (Builtin.firstCells i.size n x').run P w = .ok new'.toArray w) (hle : sLen + n ≤ cap')
    (hst : ∀ a, base' = some a → (storeCells (a.add (sLen * i.size)) new').run P w = .ok () w') (hno : base' = none → w' = w) :
    (Builtin.append_ ts ty #[.slice base' sLen cap', x']).run P w = .ok (.slice base' (sLen + n) cap') w' := by
  have hst' : (do if let some a := base' then storeCells (a.add (sLen * i.size)) new' : Sem Unit).run P w = .ok () w' := by
    cases base' with
    | none => rw [hno rfl]; rfl
    | some a => exact hst a rfl
  rcases hxd with ⟨e', rfl⟩ | rfl
  · cases base' with
    | none =>
      have := hno rfl
      subst this
      simp [Builtin.append_, hs0, hs1, run_und hu, run_und hxu, Go.sizeOf, run_info hi, hlen, hle, hnew]
    | some a =>
      have := hst a rfl
      simp [Builtin.append_, hs0, hs1, run_und hu, run_und hxu, Go.sizeOf, run_info hi, hlen, hle, hnew, this]
  · cases base' with
    | none =>
      have := hno rfl
      subst this
      simp [Builtin.append_, hs0, hs1, run_und hu, run_und hxu, Go.sizeOf, run_info hi, hlen, hle, hnew]
    | some a =>
      have := hst a rfl
      simp [Builtin.append_, hs0, hs1, run_und hu, run_und hxu, Go.sizeOf, run_info hi, hlen, hle, hnew, this]

theorem run_append_out {old' : List Value} {z : Value} (hnew : ∀ d, (Builtin.firstCells i.size n x').run P { w with drawn := d } = .ok new'.toArray { w with drawn := d })
    (hold : ∀ d, (Builtin.firstCells i.size sLen (.slice base' sLen cap')).run P { w with drawn := d } = .ok old'.toArray { w with drawn := d })
    (hz : i.zero = some z) (hle : ¬ sLen + n ≤ cap') (h63 : ((sLen : Int) + n) ≤ 9223372036854775807) (hfit : Builtin.nextslicecap (sLen + n) cap' * i.bytes ≤ 281474976710656) :
    ∃ newCap d, sLen + n ≤ newCap ∧ (Builtin.append_ ts ty #[.slice base' sLen cap', x']).run P w =
      .ok (.slice (some ⟨w.heap.size, 0, none⟩) (sLen + n) newCap) { w with heap := w.heap.push (.cells ((old' ++ new').toArray ++ Builtin.zeroCells z.cells (newCap - (sLen + n))) e), drawn := d } := by
  refine ⟨grownCap w (sLen + n) cap' e, w.drawn + 1, ?_, ?_⟩
  · simp only [grownCap, Question.cut]; exact Nat.le_add_right _ _
  have h63' : ¬ (9223372036854775807 < ((sLen : Int) + (n : Int))) := by omega
  have h48' : ¬ (281474976710656 < Builtin.nextslicecap (sLen + n) cap' * i.bytes) := by omega
  have hn1 := hnew (w.drawn + 1)
  have ho1 := hold (w.drawn + 1)
  have hzv : ∀ d, (zeroValue e).run P { w with drawn := d } = .ok z { w with drawn := d } := fun d => by simp [zeroValue, run_info hi, hz]
  have hzv1 := hzv (w.drawn + 1)
  have happ : (old' ++ new').toArray = old'.toArray ++ new'.toArray := by simp
  rcases hxd with ⟨e', rfl⟩ | rfl
  · simp [Builtin.append_, hs0, hs1, run_und hu, run_und hxu, Go.sizeOf, run_info hi, hlen, hle, h63', h48', Question.forced, hn1, ho1, hzv1, newRow, grownCap, -World.drew_eq, -World.alloc_eq]
    rw [happ, Array.append_assoc]
  · simp [Builtin.append_, hs0, hs1, run_und hu, run_und hxu, Go.sizeOf, run_info hi, hlen, hle, h63', h48', Question.forced, hn1, ho1, hzv1, newRow, grownCap, -World.drew_eq, -World.alloc_eq]
    rw [happ, Array.append_assoc]
end

theorem appendV_sound (hh : HR NG B ρ h w) {ts : Array TypeId} {ty : TypeId} {args args' : List Value} {v : Value} {h' : Heap} (hv : appendV P ts args h = some (v, h')) (ha : LR ρ args args') :
    Res NG B ρ h w ((Builtin.append_ ts ty args'.toArray).run P w) v h' := by
  unfold appendV at hv
  split at hv
  · rename_i sT xT base sLen sCap x hs0 hs1
    obtain ⟨s', t1, rfl, hs', ht1⟩ := ha.cons_inv
    obtain ⟨x', t2, rfl, hx', ht2⟩ := ht1.cons_inv
    cases ht2.nil_inv
    split at hv
    · rename_i e xd hu hxu
      split at hv
      · cases hv
      · rename_i hxd
        have hxd' : (∃ e', xd = .slice e') ∨ xd = .string := by
          cases xd <;> first | exact .inl ⟨_, rfl⟩ | exact .inr rfl | exact absurd rfl hxd
        simp only [Option.bind_eq_bind, Option.bind_eq_some_iff] at hv
        obtain ⟨i, hi, n, hn, new, hnew, z, hz, hv⟩ := hv
        split at hv
        · cases hv
        · rename_i hcond
          simp only [not_or, Bool.not_eq_true', Bool.not_eq_false, ne_eq, Decidable.not_not, Nat.not_lt] at hcond
          obtain ⟨c1, c2, c3, c4, c5, c6⟩ := hcond
          have hlen1 : ∀ w, (Builtin.lenOf x').run P w = .ok n w := fun w => (lenOf_sound (P := P) (w := w) hn hx').1
          have hlen2 := (lenOf_sound (P := P) (w := w) hn hx').2
          have hle2 : ∀ a l c, x = .slice a l c → n ≤ l := fun a l c h => by rw [hlen2 a l c h]; exact Nat.le_refl _
          obtain ⟨new', hnew1, hnew2⟩ := firstOf_sound (P := P) hh hnew hx' hle2
          have hnew0 := hnew1 w.drawn
          have hone := hnew2.oneCells c6
          obtain ⟨⟨i2, hi2, hzz⟩, hcl⟩ := zeroOf_eq hz
          rw [hi] at hi2; cases hi2
          have hnl := hnew2.1
          split at hv
          · rename_i hle
            split at hv
            · rename_i a
              cases hs' with
              | slice x0 o l _ _ cap' a' hl hcap hlen haddr hex =>
                simp only [Option.isSome_none, Bool.false_eq_true, if_false] at hv
                split at hv
                · rename_i h0
                  cases hv
                  have e : new' = [] := by
                    cases new' with
                    | nil => rfl
                    | cons u t => rw [h0] at c5; simp at c5; rw [c5] at hnl; simp at hnl
                  subst e
                  refine ⟨_, w, ρ, run_append_in hs0 hs1 hu hxu hxd' hi hlen1 (w' := w) hnew0 (by omega) (fun _ _ => rfl) (fun _ => rfl), .refl _ _ _ _, hh, ?_⟩
                  exact .slice x0 o l _ _ cap' a' hl hcap (by omega) haddr hex
                · rename_i h0
                  simp only [Option.bind_eq_some_iff] at hv
                  obtain ⟨b, hb, hv⟩ := hv
                  split at hv
                  · cases hv
                  · rename_i hes
                    simp only [Option.bind_eq_some_iff] at hv
                    obtain ⟨h2, hw, hv⟩ := hv
                    cases hv
                    obtain ⟨ha', hs'⟩ := haddr (by omega)
                    subst ha'
                    have hne : new ≠ [] := by
                      rintro rfl
                      simp only [List.length_nil] at c5
                      rcases Nat.mul_eq_zero.1 c5.symm with h | h
                      · exact h0 h
                      · exact c1 h
                    obtain ⟨w', g1, g2, g3⟩ := write_sound (P := P) hh hw hl hne hnew2 hone
                    refine ⟨_, w', ρ, run_append_in hs0 hs1 hu hxu hxd' hi hlen1 (w' := w') hnew0 (by omega) (fun a ha => ?_) (fun h => by cases h), g3, g2, ?_⟩
                    · cases ha
                      rw [add_eq, Nat.add_assoc]
                      exact g1
                    · exact .slice x0 o l _ _ cap' _ hl hcap (by omega) haddr hex
            · cases hs'
              cases hv
              have h0 : n = 0 := by omega
              subst h0
              exact ⟨_, w, ρ, run_append_in hs0 hs1 hu hxu hxd' hi hlen1 (w' := w) hnew0 (by omega) (fun _ h => by cases h) (fun _ => rfl), .refl _ _ _ _, hh, .nilSlice⟩
          · rename_i hle
            split at hv
            · cases hv
            · rename_i hsm
              have hsm : (2 * (sLen + n) + 8) * (i.bytes + i.size + 1) ≤ 2 ^ 46 := by
                simp only [small, Bool.not_eq_true', Bool.not_eq_false] at hsm
                exact Nat.le_of_ble_eq_true hsm
              have hneed : sLen + n ≤ 2 ^ 46 := by
                have : (2 * (sLen + n) + 8) * 1 ≤ (2 * (sLen + n) + 8) * (i.bytes + i.size + 1) := Nat.mul_le_mul_left _ (by omega)
                omega
              have hfit : ∀ cap', cap' < sLen + n → Builtin.nextslicecap (sLen + n) cap' * i.bytes ≤ 281474976710656 := by
                intro cap' hc
                refine growslice_fits hc ?_
                have : (sLen + n) * i.bytes ≤ (2 * (sLen + n) + 8) * (i.bytes + i.size + 1) := Nat.mul_le_mul (by omega) (by omega)
                omega
              split at hv
              · rename_i a
                cases hs' with
                | slice x0 o l _ _ cap' a' hl hcap hlen haddr hex =>
                  simp only [Option.isSome_none, Bool.false_eq_true, if_false, Option.bind_eq_some_iff] at hv
                  obtain ⟨b, hb, hv⟩ := hv
                  split at hv
                  · cases hv
                  · rename_i hbb
                    simp only [not_or, ne_eq, Decidable.not_not] at hbb
                    obtain ⟨l0, q1, q2, q3, q4, q5⟩ := hh.cells x0 b (blk_some hb)
                    rw [hl] at q1; cases q1
                    split at hv
                    · rename_i hexact
                      simp only [Option.bind_eq_some_iff] at hv
                      obtain ⟨old, hold, hv⟩ := hv
                      cases hv
                      have hcc : cap' = sCap := by
                        rcases hex with h | h
                        · exact h
                        · rw [q2.es, hbb.1, q2.len] at h; exact absurd h hexact
                      subst hcc
                      have hslice : VR ρ (.slice (some ⟨x0, o, none⟩) sLen cap') (.slice (some a') sLen cap') := .slice x0 o l _ _ cap' a' hl hcap hlen haddr hex
                      obtain ⟨old', hold1, hold2⟩ := firstOf_sound (P := P) hh hold hslice (fun a l c h => by cases h; exact Nat.le_refl _)
                      obtain ⟨nc, d, hnc, hrun⟩ := run_append_out (ty := ty) hs0 hs1 hu hxu hxd' hi hlen1 hnew1 hold1 hzz hle (by omega) (hfit _ (by omega))
                      have holdlen : old.length = sLen * i.size := by
                        unfold firstOf at hold
                        simp only [Option.isSome_none, Bool.false_eq_true, if_false] at hold
                        exact (read_sound hh hold hl).choose_spec.2.1
                      obtain ⟨p1, p2, p3⟩ := append_new (e := e) (need := sLen + n) (newCap := nc) (d := d) (z := z) hh (hold2.append hnew2) (by simp [holdlen, c5, Nat.add_mul]) hnc c4
                      exact ⟨_, _, _, hrun, p2, p1, p3⟩
                    · rename_i hexact
                      simp only [Option.bind_eq_some_iff] at hv
                      obtain ⟨⟨y, h2⟩, hg, hv⟩ := hv
                      cases hv
                      have hg2 := grow_inv hg
                      obtain ⟨b2, old, g1, g2, g3, g4, g5, g6, g7, g8, g9⟩ := hg2
                      have hbx := blk_some hb
                      rw [hbx] at g1; cases g1
                      by_cases hin : sLen + n ≤ cap'
                      · by_cases hc0 : cap' = 0
                        · exact absurd hin (by omega)
                        · obtain ⟨ha', hs'⟩ := haddr hc0
                          subst ha'
                          have hes : l.es = i.size := q2.es.trans hbb.1
                          have hmul : (sLen + n) * i.size ≤ cap' * i.size := Nat.mul_le_mul_right _ hin
                          rw [Nat.add_mul] at hmul
                          obtain ⟨w', p1, p2, p3⟩ := grow_in (P := P) hh hg hl hnew2 hone (by rw [hes] at hs'; omega)
                          refine ⟨_, w', _, run_append_in hs0 hs1 hu hxu hxd' hi hlen1 (w' := w') hnew0 hin (fun a ha => ?_) (fun h => by cases h), p3, p2, ?_⟩
                          · cases ha
                            rw [add_eq]
                            exact p1
                          · refine .slice y 0 _ _ _ cap' _ (upd_same _ _ _) hin hin (fun _ => ⟨by simp, by dsimp only; rw [hes] at hs' ⊢; omega⟩) (.inr ?_)
                            dsimp only
                            rw [hes, c5, Nat.add_mul]; omega
                      · have hslice : VR ρ (.slice (some ⟨x0, o, none⟩) sLen sCap) (.slice (some a') sLen cap') := .slice x0 o l _ _ cap' a' hl hcap hlen haddr hex
                        have hold0 : firstOf h i.size sLen (.slice (some ⟨x0, o, none⟩) sLen sCap) = some old := by
                          unfold firstOf Heap.read
                          simp only [Option.isSome_none, Bool.false_eq_true, if_false, hb]
                          exact g5
                        obtain ⟨old', hold1, hold2⟩ := firstOf_sound (P := P) hh hold0 hslice (fun a l c h => by cases h; exact Nat.le_refl _)
                        obtain ⟨nc, d, hnc, hrun⟩ := run_append_out (ty := ty) hs0 hs1 hu hxu hxd' hi hlen1 hnew1 hold1 hzz hin (by omega) (hfit _ (by omega))
                        obtain ⟨p1, p2, p3⟩ := grow_out (e := e) (need := sLen + n) (newCap := nc) (d := d) (z := z) hh hg hbx hnew2 (fun old2 h => by rw [g5] at h; cases h; exact hold2) hbb.2 hbb.1 (by rw [c5, Nat.add_mul]) hnc c4
                        exact ⟨_, _, _, hrun, p2, p1, p3⟩
              · split at hv
                · cases hv
                · rename_i hs0'
                  simp only [ne_eq, Decidable.not_not] at hs0'
                  subst hs0'
                  cases hv
                  cases hs'
                  obtain ⟨nc, d, hnc, hrun⟩ := run_append_out (ty := ty) (base' := none) (old' := []) hs0 hs1 hu hxu hxd' hi hlen1 hnew1 (fun _ => rfl) hzz hle (by omega) (hfit _ (by omega))
                  obtain ⟨p1, p2, p3⟩ := append_new (e := e) (need := 0 + n) (newCap := nc) (d := d) (z := z) hh hnew2 (by simp [c5]) hnc c4
                  exact ⟨_, _, _, hrun, p2, p1, p3⟩
    · cases hv
  · cases hv
end
end Go.AX
