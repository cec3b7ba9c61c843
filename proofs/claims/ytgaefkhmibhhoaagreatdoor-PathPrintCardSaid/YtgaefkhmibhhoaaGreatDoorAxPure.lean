/- A part of the proof that rubriclaw22.PathPrint returns true for every path. -/
import Derived.Test.YtgaefkhmibhhoaaGreatDoorAxW
set_option linter.unusedSimpArgs false
set_option linter.unusedVariables false
namespace Go.AX
open Go

/-! ### what a call comes to, with all forgotten that it made for itself -/
theorem VR.restrict {ρ ρ' : Map} (he : Ext ρ ρ') {v u : Value} (h : VR ρ v u) : ∀ {v' : Value}, VR ρ' v v' → VR ρ v v' := by
  induction h with
  | bool b => intro v' h; cases h; exact .bool b
  | int k n => intro v' h; cases h; exact .int k n
  | string s => intro v' h; cases h; exact .string s
  | nilPtr => intro v' h; cases h; exact .nilPtr
  | ptr x o l hx =>
    intro v' h
    cases h with
    | ptr _ _ l' hx' =>
      have := he x l hx
      rw [hx'] at this; cases this
      exact .ptr x o _ hx
  | nilSlice => intro v' h; cases h; exact .nilSlice
  | slice x o l len cap cap' a' hx h1 h2 h3 h4 =>
    intro v' h
    cases h with
    | slice _ _ l' _ _ cap2 a2 hx' k1 k2 k3 k4 =>
      have := he x l hx
      rw [hx'] at this; cases this
      exact .slice x o _ len cap cap2 a2 hx k1 k2 k3 k4
  | nilMap => intro v' h; cases h; exact .nilMap
  | nilChan => intro v' h; cases h; exact .nilChan
  | func fn a b a' b' h1 h2 _ _ i1 i2 =>
    intro v' h
    cases h with
    | func _ _ _ a2 b2 k1 k2 r1 r2 =>
      refine .func fn a b a2 b2 k1 k2 (fun i x y hx hy => ?_) (fun i x y hx hy => ?_)
      · have hi : i < a'.size := by have := (Array.getElem?_eq_some_iff.1 hx).1; omega
        exact i1 i x a'[i] hx (by simp [hi]) (r1 i x y hx hy)
      · have hi : i < b'.size := by have := (Array.getElem?_eq_some_iff.1 hx).1; omega
        exact i2 i x b'[i] hx (by simp [hi]) (r2 i x y hx hy)
  | nilFunc => intro v' h; cases h; exact .nilFunc
  | nilIface => intro v' h; cases h; exact .nilIface
  | iface t v u _ ih =>
    intro v' h
    cases h with
    | iface _ _ v2 h2 => exact .iface t v v2 (ih h2)
  | agg a a' h1 _ ih =>
    intro v' h
    cases h with
    | agg _ a2 k1 r =>
      refine .agg a a2 k1 fun i x y hx hy => ?_
      have hi : i < a'.size := by have := (Array.getElem?_eq_some_iff.1 hx).1; omega
      exact ih i x a'[i] hx (by simp [hi]) (r i x y hx hy)
  | tuple a a' h1 _ ih =>
    intro v' h
    cases h with
    | tuple _ a2 k1 r =>
      refine .tuple a a2 k1 fun i x y hx hy => ?_
      have hi : i < a'.size := by have := (Array.getElem?_eq_some_iff.1 hx).1; omega
      exact ih i x a'[i] hx (by simp [hi]) (r i x y hx hy)

/-- What lived lives on as it was. -/
def Keeps (h h' : Heap) : Prop := ∀ x o, h.get x = some o → o ≠ .dead → h'.get x = some o
theorem Keeps.refl (h : Heap) : Keeps h h := fun _ _ h _ => h
theorem Keeps.trans {a b c : Heap} (h : Keeps a b) (k : Keeps b c) : Keeps a c := fun x o hx ho => k x o (h x o hx ho) ho
/-- Nothing lives at a number that is not given yet. -/
def Free (h : Heap) : Prop := ∀ x o, h.next ≤ x → h.get x = some o → o = .dead
theorem Free.row {h : Heap} (hf : Free h) (c : List Value) (e : TypeId) (s : Nat) : Free (h.row c e s).2 := fun x o hx ho => by
  simp only [Heap.row, Heap.get_setMembers, Heap.get_push, Heap.next_setMembers, Heap.next_push] at hx ho
  rw [if_neg (by omega)] at ho
  exact hf x o (by omega) ho
theorem Free.push {h : Heap} (hf : Free h) (o1 : AO) : Free (h.push o1) := fun x o hx ho => by
  simp only [Heap.get_push, Heap.next_push] at hx ho
  rw [if_neg (by omega)] at ho
  exact hf x o (by omega) ho
theorem Keeps.row {h : Heap} (hf : Free h) (c : List Value) (e : TypeId) (s : Nat) : Keeps h (h.row c e s).2 := fun x o hx ho => by
  simp only [Heap.row, Heap.get_setMembers, Heap.get_push]
  rw [if_neg, hx]
  rintro rfl
  exact ho (hf _ _ (Nat.le_refl _) hx)
theorem Keeps.push {h : Heap} (hf : Free h) (o1 : AO) : Keeps h (h.push o1) := fun x o hx ho => by
  simp only [Heap.get_push]
  rw [if_neg, hx]
  rintro rfl
  exact ho (hf _ _ (Nat.le_refl _) hx)
/-- What is put where nothing lived of old. -/
theorem Keeps.put {h0 h : Heap} (hk : Keeps h0 h) {x : Nat} (hx : ∀ o, h0.get x = some o → o = .dead) (o1 : AO) : Keeps h0 (h.put x o1) := fun y o hy ho => by
  rw [Heap.get_put, if_neg]
  · exact hk y o hy ho
  · rintro rfl
    exact ho (hx o hy)

section
variable {P : Program} {NG B : Nat} {ρ ρ' : Map} {h h' : Heap} {w w' : World}

/-- Back to the heap of before. -/
theorem HR.back (hh : HR NG B ρ h w) (hs : Step h.next ρ h w ρ' h' w') (hh' : HR NG B ρ' h' w') (hk : Keeps h h') : HR NG B ρ h w' ∧ Step h.next ρ h w ρ h w' := by
  have hblk : ∀ x b l, h.get x = some (.cells b) → ρ x = some l → BlkR ρ w' l b := by
    intro x b l hx hl
    obtain ⟨l1, e1, b1, _⟩ := hh.cells x b hx
    rw [hl] at e1; cases e1
    obtain ⟨l2, e2, b2, _⟩ := hh'.cells x b (hk x _ hx (by simp))
    rw [hs.ext x l hl] at e2; cases e2
    obtain ⟨⟨c, fr, q1, q2, q3, q4⟩, q5, q6, q7, q8⟩ := b2
    obtain ⟨⟨c0, fr0, p1, p2, p3, p4⟩, _⟩ := b1
    refine ⟨⟨c, fr, q1, q2, q3, fun i v hv => ?_⟩, q5, q6, q7, q8⟩
    obtain ⟨v', r1, r2⟩ := q4 i v hv
    obtain ⟨u, s1, s2⟩ := p4 i v hv
    exact ⟨v', r1, s2.restrict hs.ext r2⟩
  constructor
  · exact {
      dom := fun x l hx => ⟨(hh.dom x l hx).1, Nat.lt_of_lt_of_le (hh.dom x l hx).2 hs.size⟩
      cells := fun x b hx => by
        obtain ⟨l, e1, b1, b2, b3, b4⟩ := hh.cells x b hx
        exact ⟨l, e1, hblk x b l hx e1, b2, b3, b4⟩
      iter := fun x s p hx => by
        obtain ⟨l, e1, b1, b2, b3⟩ := hh.iter x s p hx
        obtain ⟨l2, e2, c1, _⟩ := hh'.iter x s p (hk x _ hx (by simp))
        rw [hs.ext x l e1] at e2; cases e2
        exact ⟨l, e1, c1, b2, b3⟩
      sepC := hh.sepC
      sepI := hh.sepI
      glob := hh.glob
      next := hh.next
      room := Nat.le_trans hh.room hs.size }
  · exact { hs with
      ext := .refl _
      new := fun x hx hx' => absurd hx hx'
      next := Nat.le_refl _
      alive := fun x l hx hl => .inr ⟨x, l, hx, hl, rfl⟩
      wr := fun x l hx hl => .inr ⟨x, l, hx, hl, rfl⟩ }

/-- Values that name no memory. -/
inductive Flat : Value → Prop where
  | bool (b : Bool) : Flat (.bool b)
  | int (k : IntKind) (n : Int) : Flat (.int k n)
  | string (s : ByteArray) : Flat (.string s)
  | tuple (l : List Value) : (∀ v, v ∈ l → Flat v) → Flat (.tuple l.toArray)
theorem Flat.same {v : Value} (hv : Flat v) : ∀ {ρ ρ' : Map} {v' : Value}, VR ρ' v v' → VR ρ v v' := by
  induction hv with
  | bool b => intro ρ ρ' v' h; cases h; exact .bool b
  | int k n => intro ρ ρ' v' h; cases h; exact .int k n
  | string s => intro ρ ρ' v' h; cases h; exact .string s
  | tuple l _ ih =>
    intro ρ ρ' v' h
    cases h with
    | tuple _ a2 k1 r =>
      refine .tuple _ a2 k1 fun i x y hx hy => ?_
      exact ih x (List.mem_of_getElem? (by simpa using hx)) (r i x y hx hy)

/-- What a function yields, that makes nothing that is seen. -/
def pureS (F : FuncId) (g : List Value → Heap → Option Value) : Caller := fun f args h => if f = F then (g args h).map fun v => (v, h) else none

theorem pure_ok {J : Map → Heap → World → Prop} {F : FuncId} {g : List Value → Heap → Option Value} {S : Caller} (hm : P.follows .mixedOrders = true) (hx : XOK P) (hN : NOK P) (hG : NG = P.globals.size) (hC : JC J) (hS : KOK P NG B J S)
    (hg : ∀ args h v, Free h → g args h = some v → Flat v ∧ ∃ n v' h', callBody P (exec P S n) F args h = some (v', h') ∧ v' = v ∧ Keeps h h') : KOK P NG B J (pureS F g) := by
  intro f args h v h' he ρ w cargs hh hJ hl
  unfold pureS at he
  split at he
  · rename_i hf
    subst hf
    simp only [Option.map_eq_some_iff, Prod.mk.injEq] at he
    obtain ⟨v1, h1, rfl, rfl⟩ := he
    have hfree : Free h := fun x o hx ho => by
      have hn := hh.none_next hx
      cases o with
      | dead => rfl
      | cells b => obtain ⟨l, e, _⟩ := hh.cells x b ho; rw [hn] at e; cases e
      | iter s p => obtain ⟨l, e, _⟩ := hh.iter x s p ho; rw [hn] at e; cases e
    obtain ⟨hv, n, v2, h2, hb, rfl, hk⟩ := hg args h v1 hfree h1
    refine (callBody_sound (exec_sound hm hx hN hG hC hS n) f args h _ h2 hb ρ w cargs hh hJ hl).mono ?_
    rintro e w' ⟨v', ρ', rfl, s1, s2, s3⟩
    obtain ⟨b1, b2⟩ := hh.back s1 s2 hk
    exact ⟨v', ρ, rfl, b2, b1, hv.same s3⟩
  · cases he
end
end Go.AX
