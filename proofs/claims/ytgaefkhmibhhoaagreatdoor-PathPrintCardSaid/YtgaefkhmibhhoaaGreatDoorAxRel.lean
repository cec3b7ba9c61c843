/- A part of the proof that rubriclaw22.PathPrint returns true for every path. -/
import Derived.Test.YtgaefkhmibhhoaaGreatDoorAxCore
import Derived.Below
set_option linter.unusedSimpArgs false
set_option linter.unusedVariables false
namespace Go.AX
open Go

/-! ### the numbered tree -/
theorem Tr.get_lf {α : Type} (n : Nat) : (Tr.lf : Tr α).get n = none := by simp [Tr.get]
theorem Tr.get_nd {α : Type} (v : Option α) (l r : Tr α) (n : Nat) :
    (Tr.nd v l r).get n = if n = 0 then v else if n % 2 = 1 then l.get (n / 2) else r.get ((n - 1) / 2) := by
  simp [Tr.get, Bool.cond_eq_ite]
theorem Tr.get_set {α : Type} (x : α) : ∀ (f : Nat) (t : Tr α) (n m : Nat), n < f → (Tr.set x f t n).get m = if m = n then some x else t.get m := by
  intro f
  induction f with
  | zero => intro t n m h; omega
  | succ f ih =>
    intro t n m h
    have key : ∀ (v : Option α) (l r : Tr α), (bif Nat.beq n 0 then Tr.nd (some x) l r else bif Nat.beq (n % 2) 1 then .nd v (Tr.set x f l (n / 2)) r else .nd v l (Tr.set x f r ((n - 1) / 2))).get m = if m = n then some x else (Tr.nd v l r).get m := by
      intro v l r
      simp only [Bool.cond_eq_ite, Nat.beq_eq]
      by_cases h0 : n = 0
      · simp only [h0, if_true, Tr.get_nd]
        by_cases hm : m = 0 <;> simp [hm]
      · simp only [h0, if_false]
        by_cases h1 : n % 2 = 1
        · simp only [h1, if_true, Tr.get_nd]
          rw [ih _ _ _ (by omega)]
          by_cases hm : m = 0
          · simp [hm]; omega
          · simp only [hm, if_false]
            by_cases hm1 : m % 2 = 1
            · simp only [hm1, if_true]
              by_cases e : m = n
              · simp [e]
              · rw [if_neg (by omega), if_neg e]
            · simp only [hm1, if_false]
              rw [if_neg (by omega)]
        · simp only [h1, if_false, Tr.get_nd]
          rw [ih _ _ _ (by omega)]
          by_cases hm : m = 0
          · simp [hm]; omega
          · simp only [hm, if_false]
            by_cases hm1 : m % 2 = 1
            · simp only [hm1, if_true]
              rw [if_neg (by omega)]
            · simp only [hm1, if_false]
              by_cases e : m = n
              · simp [e]
              · rw [if_neg (by omega), if_neg e]
    cases t with
    | lf =>
      have := key none .lf .lf
      simp only [Tr.set]
      rw [this, Tr.get_nd, Tr.get_lf, Tr.get_lf, Tr.get_lf]
      simp
    | nd v l r => simp only [Tr.set]; exact key v l r

theorem Heap.get_put (h : Heap) (x : Nat) (o : AO) (y : Nat) : (h.put x o).get y = if y = x then some o else h.get y := Tr.get_set o _ _ _ _ (by omega)
theorem Heap.get_push (h : Heap) (o : AO) (y : Nat) : (h.push o).get y = if y = h.next then some o else h.get y := Tr.get_set o _ _ _ _ (by omega)
theorem Heap.get_setMembers (h : Heap) (f : Nat) (l : List Nat) (y : Nat) : (h.setMembers f l).get y = h.get y := rfl
theorem Heap.next_setMembers (h : Heap) (f : Nat) (l : List Nat) : (h.setMembers f l).next = h.next := rfl
theorem Heap.next_put (h : Heap) (x : Nat) (o : AO) : (h.put x o).next = h.next := rfl
theorem Heap.next_push (h : Heap) (o : AO) : (h.push o).next = h.next + 1 := rfl
theorem Heap.members_put (h : Heap) (x : Nat) (o : AO) (f : Nat) : (h.put x o).members f = h.members f := rfl
theorem Heap.members_push (h : Heap) (o : AO) (f : Nat) : (h.push o).members f = h.members f := rfl
theorem Heap.members_set (h : Heap) (f : Nat) (l : List Nat) (g : Nat) : (h.setMembers f l).members g = if g = f then l else h.members g := by
  unfold Heap.members Heap.setMembers
  rw [Tr.get_set _ _ _ _ _ (by omega)]
  split <;> rfl

theorem Heap.next_killAll (l : List Nat) : ∀ h : Heap, (h.killAll l).next = h.next := by
  induction l with
  | nil => intro h; rfl
  | cons x l ih => intro h; simp only [Heap.killAll]; rw [ih]; rfl
theorem Heap.members_killAll (l : List Nat) : ∀ (h : Heap) (f : Nat), (h.killAll l).members f = h.members f := by
  induction l with
  | nil => intro h f; rfl
  | cons x l ih => intro h f; simp only [Heap.killAll]; rw [ih]; rfl
theorem Heap.get_killAll (l : List Nat) : ∀ (h : Heap) (y : Nat), (h.killAll l).get y = if y ∈ l then some .dead else h.get y := by
  induction l with
  | nil => intro h y; simp [Heap.killAll]
  | cons x l ih =>
    intro h y
    simp only [Heap.killAll]
    rw [ih, Heap.get_put]
    by_cases h1 : y ∈ l
    · simp [h1]
    · by_cases h2 : y = x <;> simp [h1, h2]

/-- What is left of a family is one. -/
theorem Heap.get_only (h : Heap) (f x y : Nat) : (h.only f x).get y = if y ∈ h.members f ∧ y ≠ x then some .dead else h.get y := by
  unfold Heap.only
  have hm : ∀ y, y ∈ (h.members f).filter (fun y => !Nat.beq y x) ↔ y ∈ h.members f ∧ y ≠ x := by
    intro y
    have : (!Nat.beq y x) = true ↔ y ≠ x := by
      by_cases e : y = x
      · simp [e]
      · have : Nat.beq y x = false := by cases hb : Nat.beq y x with
          | false => rfl
          | true => exact absurd (Nat.eq_of_beq_eq_true hb) e
        simp [this, e]
    rw [List.mem_filter, this]
  split
  · rename_i e
    rw [if_neg]
    rw [← hm y, e]; simp
  · rename_i l e
    rw [Heap.get_setMembers, Heap.get_killAll]
    simp only [hm]
theorem Heap.next_only (h : Heap) (f x : Nat) : (h.only f x).next = h.next := by
  unfold Heap.only
  split
  · rfl
  · rw [Heap.next_setMembers, Heap.next_killAll]
/-- Who lives is listed still. -/
theorem Heap.members_only (h : Heap) (f x g z : Nat) (hz : z ∈ h.members g) (hl : ¬ (z ∈ h.members f ∧ z ≠ x)) : z ∈ (h.only f x).members g := by
  unfold Heap.only
  split
  · exact hz
  · rw [Heap.members_set, Heap.members_killAll]
    split
    · rename_i e
      subst e
      by_cases e : z = x
      · simp [e]
      · exact absurd ⟨hz, e⟩ hl
    · exact hz

/-! ### lists -/
theorem takeN_eq : ∀ (n : Nat) (l r : List Value), takeN n l = some r → r = l.take n ∧ n ≤ l.length := by
  intro n
  induction n with
  | zero => intro l r h; simp only [takeN, Option.some.injEq] at h; subst h; simp
  | succ n ih =>
    intro l r h
    cases l with
    | nil => simp [takeN] at h
    | cons v l =>
      simp only [takeN, Option.map_eq_some_iff] at h
      obtain ⟨r', h1, rfl⟩ := h
      obtain ⟨rfl, h2⟩ := ih _ _ h1
      simp; omega
theorem dropN_eq : ∀ (n : Nat) (l : List Value), dropN n l = l.drop n := by
  intro n
  induction n with
  | zero => intro l; simp [dropN]
  | succ n ih => intro l; cases l with
    | nil => simp [dropN]
    | cons v l => simp [dropN, ih]
theorem take_drop_get {n o : Nat} {l r : List Value} (h : takeN n (dropN o l) = some r) : r.length = n ∧ o + n ≤ max l.length o ∧ (∀ i, i < n → r[i]? = l[o + i]?) ∧ r = (l.drop o).take n := by
  obtain ⟨rfl, h2⟩ := takeN_eq _ _ _ h
  rw [dropN_eq] at h2 ⊢
  simp only [List.length_drop] at h2
  refine ⟨by simp; omega, by omega, fun i hi => ?_, rfl⟩
  rw [List.getElem?_take, if_pos hi, List.getElem?_drop]
theorem over_get : ∀ (o : Nat) (l new r : List Value), over o l new = some r → r.length = l.length ∧ (new ≠ [] → o + new.length ≤ l.length) ∧
    ∀ i, r[i]? = if o ≤ i ∧ i < o + new.length then new[i - o]? else l[i]? := by
  intro o l
  induction l generalizing o with
  | nil =>
    intro new r h
    cases new with
    | nil => simp only [over, Option.some.injEq] at h; subst h; simp
    | cons v new => simp [over] at h
  | cons x l ih =>
    intro new r h
    cases new with
    | nil => simp only [over, Option.some.injEq] at h; subst h; exact ⟨rfl, fun h => absurd rfl h, fun i => by rw [if_neg (by simp)]⟩
    | cons v new =>
      cases o with
      | zero =>
        simp only [over, Option.map_eq_some_iff] at h
        obtain ⟨r', h1, rfl⟩ := h
        obtain ⟨h2, h3, h4⟩ := ih _ _ _ h1
        refine ⟨by simp [h2], fun _ => ?_, fun i => ?_⟩
        · cases new with
          | nil => simp
          | cons u new => have := h3 (by simp); simp at this ⊢; omega
        · cases i with
          | zero => simp
          | succ i =>
            have := h4 i
            simp only [Nat.zero_le, true_and, Nat.zero_add, Nat.sub_zero, List.getElem?_cons_succ, List.length_cons] at this ⊢
            rw [this]
            by_cases h5 : i < new.length
            · rw [if_pos h5, if_pos (by omega)]
            · rw [if_neg h5, if_neg (by omega)]
      | succ o =>
        simp only [over, Option.map_eq_some_iff] at h
        obtain ⟨r', h1, rfl⟩ := h
        obtain ⟨h2, h3, h4⟩ := ih _ _ _ h1
        refine ⟨by simp [h2], fun _ => ?_, fun i => ?_⟩
        · have := h3 (by simp); simp at this ⊢; omega
        · cases i with
          | zero => simp
          | succ i =>
            have := h4 i
            simp only [List.getElem?_cons_succ]
            rw [this]
            by_cases h5 : o ≤ i ∧ i < o + (v :: new).length
            · rw [if_pos h5, if_pos (by omega)]
              congr 1; omega
            · rw [if_neg h5, if_neg (by omega)]

theorem getT_eq : ∀ (l : Tm) (n : Nat), getT l n = l.getD n undef := by
  intro l
  induction l with
  | nil => intro n; simp [getT]
  | cons v l ih => intro n; cases n with
    | zero => simp [getT]
    | succ n => simp [getT, ih]
theorem setT_eq : ∀ (l : Tm) (n : Nat) (v : Value), setT l n v = l.set n v := by
  intro l
  induction l with
  | nil => intro n v; simp [setT]
  | cons x l ih => intro n v; cases n with
    | zero => simp [setT]
    | succ n => simp [setT, ih]

/-! ### what stands for what -/
structure Loc where
  b : Nat
  base : Nat
  size : Nat
  es : Nat
  /-- How many of its cells are told. -/
  len : Nat
abbrev Map := Nat → Option Loc

inductive VR (ρ : Map) : Value → Value → Prop where
  | bool (b : Bool) : VR ρ (.bool b) (.bool b)
  | int (k : IntKind) (n : Int) : VR ρ (.int k n) (.int k n)
  | string (s : ByteArray) : VR ρ (.string s) (.string s)
  | nilPtr : VR ρ (.pointer none) (.pointer none)
  | ptr (x o : Nat) (l : Loc) : ρ x = some l → VR ρ (.pointer (some ⟨x, o, none⟩)) (.pointer (some ⟨l.b, l.base + o, none⟩))
  | nilSlice : VR ρ (.slice none 0 0) (.slice none 0 0)
  | slice (x o : Nat) (l : Loc) (len cap cap' : Nat) (a' : Addr) : ρ x = some l → cap ≤ cap' → len ≤ cap' →
      (cap' ≠ 0 → a' = ⟨l.b, l.base + o, none⟩ ∧ l.base + o + cap' * l.es ≤ l.size) → (cap' = cap ∨ o + cap * l.es = l.len) → VR ρ (.slice (some ⟨x, o, none⟩) len cap) (.slice (some a') len cap')
  | nilMap : VR ρ (.map none) (.map none)
  | nilChan : VR ρ (.chan none) (.chan none)
  | func (fn : Fn) (a b a' b' : Array Value) : a.size = a'.size → b.size = b'.size → (∀ (i : Nat) (x y : Value), a[i]? = some x → a'[i]? = some y → VR ρ x y) →
      (∀ (i : Nat) (x y : Value), b[i]? = some x → b'[i]? = some y → VR ρ x y) → VR ρ (.func fn a b) (.func fn a' b')
  | nilFunc : VR ρ .nilFunc .nilFunc
  | nilIface : VR ρ .nilIface .nilIface
  | iface (t : TypeId) (v v' : Value) : VR ρ v v' → VR ρ (.iface t v) (.iface t v')
  | agg (a a' : Array Value) : a.size = a'.size → (∀ (i : Nat) (x y : Value), a[i]? = some x → a'[i]? = some y → VR ρ x y) → VR ρ (.agg a) (.agg a')
  | tuple (a a' : Array Value) : a.size = a'.size → (∀ (i : Nat) (x y : Value), a[i]? = some x → a'[i]? = some y → VR ρ x y) → VR ρ (.tuple a) (.tuple a')

/-- Rows of values. -/
def LR (ρ : Map) (l l' : List Value) : Prop := l.length = l'.length ∧ ∀ (i : Nat) (x y : Value), l[i]? = some x → l'[i]? = some y → VR ρ x y

theorem LR.agg {ρ : Map} {l l' : List Value} (h : LR ρ l l') : VR ρ (.agg l.toArray) (.agg l'.toArray) :=
  .agg _ _ (by simpa using h.1) (fun i x y hx hy => h.2 i x y (by simpa using hx) (by simpa using hy))
theorem LR.tuple {ρ : Map} {l l' : List Value} (h : LR ρ l l') : VR ρ (.tuple l.toArray) (.tuple l'.toArray) :=
  .tuple _ _ (by simpa using h.1) (fun i x y hx hy => h.2 i x y (by simpa using hx) (by simpa using hy))
theorem LR.nil (ρ : Map) : LR ρ [] [] := ⟨rfl, by simp⟩
theorem LR.cons {ρ : Map} {v v' : Value} {l l' : List Value} (h : VR ρ v v') (hl : LR ρ l l') : LR ρ (v :: l) (v' :: l') := by
  refine ⟨by simp [hl.1], fun i x y hx hy => ?_⟩
  cases i with
  | zero => simp at hx hy; subst hx hy; exact h
  | succ i => simp at hx hy; exact hl.2 i x y hx hy
theorem LR.cons_inv {ρ : Map} {v : Value} {l l2 : List Value} (h : LR ρ (v :: l) l2) : ∃ v' l', l2 = v' :: l' ∧ VR ρ v v' ∧ LR ρ l l' := by
  cases l2 with
  | nil => have := h.1; simp at this
  | cons v' l' =>
    refine ⟨v', l', rfl, h.2 0 _ _ (by simp) (by simp), by have := h.1; simpa using this, fun i x y hx hy => h.2 (i + 1) x y (by simpa using hx) (by simpa using hy)⟩
theorem LR.nil_inv {ρ : Map} {l2 : List Value} (h : LR ρ [] l2) : l2 = [] := by
  cases l2 with
  | nil => rfl
  | cons v l => have := h.1; simp at this
theorem LR.append {ρ : Map} {l l' m m' : List Value} (h : LR ρ l l') (hm : LR ρ m m') : LR ρ (l ++ m) (l' ++ m') := by
  refine ⟨by simp [h.1, hm.1], fun i x y hx hy => ?_⟩
  have e := h.1
  rw [List.getElem?_append] at hx hy
  by_cases hi : i < l.length
  · rw [if_pos hi] at hx; rw [if_pos (by omega)] at hy; exact h.2 i x y hx hy
  · rw [if_neg hi] at hx; rw [if_neg (by omega)] at hy; exact hm.2 _ x y (e ▸ hx) (by rw [← e] at hy; exact (e ▸ hy))
theorem LR.take {ρ : Map} {l l' : List Value} (h : LR ρ l l') (n : Nat) : LR ρ (l.take n) (l'.take n) := by
  refine ⟨by simp [h.1], fun i x y hx hy => ?_⟩
  rw [List.getElem?_take] at hx hy
  by_cases hi : i < n
  · rw [if_pos hi] at hx hy; exact h.2 i x y hx hy
  · rw [if_neg hi] at hx; cases hx
theorem LR.drop {ρ : Map} {l l' : List Value} (h : LR ρ l l') (n : Nat) : LR ρ (l.drop n) (l'.drop n) := by
  refine ⟨by simp [h.1], fun i x y hx hy => ?_⟩
  rw [List.getElem?_drop] at hx hy
  exact h.2 _ x y hx hy
theorem LR.get {ρ : Map} {l l' : List Value} (h : LR ρ l l') {i : Nat} {x : Value} (hx : l[i]? = some x) : ∃ y, l'[i]? = some y ∧ VR ρ x y := by
  have hi : i < l.length := (List.getElem?_eq_some_iff.1 hx).1
  have hi' : i < l'.length := by have := h.1; omega
  exact ⟨l'[i], by simp [hi'], h.2 i _ _ hx (by simp [hi'])⟩
theorem LR.of_map {ρ : Map} {α : Type} (f g : α → Value) (l : List α) (h : ∀ a, a ∈ l → VR ρ (f a) (g a)) : LR ρ (l.map f) (l.map g) := by
  refine ⟨by simp, fun i x y hx hy => ?_⟩
  simp only [List.getElem?_map, Option.map_eq_some_iff] at hx hy
  obtain ⟨a, ha, rfl⟩ := hx
  obtain ⟨b, hb, rfl⟩ := hy
  rw [ha] at hb; cases hb
  exact h a (List.mem_of_getElem? ha)

def Ext (ρ ρ' : Map) : Prop := ∀ x l, ρ x = some l → ρ' x = some l
theorem Ext.refl (ρ : Map) : Ext ρ ρ := fun _ _ h => h
theorem Ext.trans {ρ ρ' ρ'' : Map} (h : Ext ρ ρ') (h' : Ext ρ' ρ'') : Ext ρ ρ'' := fun x l hx => h' x l (h x l hx)
theorem VR.mono {ρ ρ' : Map} (h : Ext ρ ρ') {v v' : Value} (hv : VR ρ v v') : VR ρ' v v' := by
  induction hv with
  | bool b => exact .bool b
  | int k n => exact .int k n
  | string s => exact .string s
  | nilPtr => exact .nilPtr
  | ptr x o l hx => exact .ptr x o l (h x l hx)
  | nilSlice => exact .nilSlice
  | slice x o l len cap cap' a' hx h1 h2 h3 h4 => exact .slice x o l len cap cap' a' (h x l hx) h1 h2 h3 h4
  | nilMap => exact .nilMap
  | nilChan => exact .nilChan
  | func fn a b a' b' h1 h2 _ _ i1 i2 => exact .func fn a b a' b' h1 h2 i1 i2
  | nilFunc => exact .nilFunc
  | nilIface => exact .nilIface
  | iface t v v' _ ih => exact .iface t v v' ih
  | agg a a' h1 _ ih => exact .agg a a' h1 ih
  | tuple a a' h1 _ ih => exact .tuple a a' h1 ih
theorem LR.mono {ρ ρ' : Map} (h : Ext ρ ρ') {l l' : List Value} (hl : LR ρ l l') : LR ρ' l l' := ⟨hl.1, fun i x y hx hy => (hl.2 i x y hx hy).mono h⟩

theorem VR.agg_inv {ρ : Map} {a : Array Value} {v' : Value} (h : VR ρ (.agg a) v') : ∃ a', v' = .agg a' ∧ LR ρ a.toList a'.toList := by
  cases h with
  | agg _ a' h1 h2 => exact ⟨a', rfl, by simpa using h1, fun i x y hx hy => h2 i x y (by simpa using hx) (by simpa using hy)⟩
theorem VR.tuple_inv {ρ : Map} {a : Array Value} {v' : Value} (h : VR ρ (.tuple a) v') : ∃ a', v' = .tuple a' ∧ LR ρ a.toList a'.toList := by
  cases h with
  | tuple _ a' h1 h2 => exact ⟨a', rfl, by simpa using h1, fun i x y hx hy => h2 i x y (by simpa using hx) (by simpa using hy)⟩
theorem VR.undef (ρ : Map) : VR ρ undef undef := (LR.nil ρ).tuple

theorem VR.closed0 {ρ : Map} {v : Value} (h : closed0 v = true) : VR ρ v v := by
  unfold AX.closed0 at h
  split at h
  · exact .bool _
  · exact .int _ _
  · exact .string _
  · exact .nilPtr
  · exact .nilSlice
  · exact .nilMap
  · exact .nilChan
  · exact .nilFunc
  · exact .nilIface
  · cases h
theorem LR.refl_of {ρ : Map} {l : List Value} (h : ∀ v, v ∈ l → VR ρ v v) : LR ρ l l :=
  ⟨rfl, fun i x y hx hy => by rw [hx] at hy; cases hy; exact h x (List.mem_of_getElem? hx)⟩
theorem VR.closed {ρ : Map} {v : Value} (h : closed v = true) : VR ρ v v := by
  unfold AX.closed at h
  split at h
  · rename_i cs
    have := LR.agg (LR.refl_of (ρ := ρ) fun v hv => VR.closed0 (List.all_eq_true.1 h v hv))
    simpa using this
  · exact VR.closed0 h

theorem VR.cells {ρ : Map} {v v' : Value} (h : VR ρ v v') : LR ρ v.cells.toList v'.cells.toList := by
  cases h with
  | agg a a' h1 h2 => simp only [Value.cells]; exact ⟨by simpa using h1, fun i x y hx hy => h2 i x y (by simpa using hx) (by simpa using hy)⟩
  | _ => simp only [Value.cells]; exact .cons (by constructor <;> assumption) (.nil _)
theorem VR.oneCell {ρ : Map} {v v' : Value} (h : VR ρ v v') : v'.oneCell' = oneCell v := by
  cases h <;> rfl
end Go.AX
