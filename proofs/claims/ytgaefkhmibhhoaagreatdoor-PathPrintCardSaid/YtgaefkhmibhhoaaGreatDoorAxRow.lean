/- A part of the proof that rubriclaw22.PathPrint returns true for every path. -/
import Derived.Test.YtgaefkhmibhhoaaGreatDoorAxAcc
set_option linter.unusedSimpArgs false
set_option linter.unusedVariables false
namespace Go.AX
open Go

/-! ### a function that yields a slice of numbers, in a row of its own, and a truth value -/
def retS (F : FuncId) (g : List Value → Option (List Int × Bool)) : Caller := fun f args h =>
  if f = F then
    match g args with
    | some (A, b) => if A = [] then some (.tuple #[.slice none 0 0, .bool b], h) else some (.tuple #[.slice (some ⟨h.next, 0, none⟩) A.length A.length, .bool b], (h.row (A.map (Value.int .i64)) 3 1).2)
    | none => none
  else none

theorem vr_pair {ρ : Map} {o : Value} {b : Bool} {c : Value} (h : VR ρ (.tuple #[o, .bool b]) c) : ∃ o', c = .tuple #[o', .bool b] ∧ VR ρ o o' := by
  obtain ⟨a', rfl, hl⟩ := h.tuple_inv
  obtain ⟨o', l1, e1, h1, h2⟩ := LR.cons_inv hl
  obtain ⟨b', l2, e2, h3, h4⟩ := LR.cons_inv h2
  have := h4.nil_inv
  subst this
  cases h3
  refine ⟨o', ?_, h1⟩
  congr 1
  apply Array.ext'
  rw [e1, e2]
theorem pair_vr {ρ : Map} {o o' : Value} {b : Bool} (h : VR ρ o o') : VR ρ (.tuple #[o, .bool b]) (.tuple #[o', .bool b]) := by
  have := (LR.cons h (LR.cons (.bool b) (.nil ρ))).tuple
  simpa using this

section
variable {P : Program} {NG B : Nat}
theorem ret_ok {J : Map → Heap → World → Prop} {F : FuncId} {g : List Value → Option (List Int × Bool)} {S : Caller} (hm : P.follows .mixedOrders = true) (hx : XOK P) (hN : NOK P) (hG : NG = P.globals.size) (hC : JC J) (hS : KOK P NG B J S)
    (hg : ∀ args h A b, Free h → g args = some (A, b) → ∃ n v' h', callBody P (exec P S n) F args h = some (v', h') ∧ ∃ o, v' = .tuple #[o, .bool b] ∧ Acc 3 h h' o (A.map (Value.int .i64))) : KOK P NG B J (retS F g) := by
  intro f args h v h' he ρ w cargs hh hJ hl
  unfold retS at he
  split at he
  · rename_i hf
    subst hf
    split at he
    · rename_i A b hga
      have hfree : Free h := fun x o hx ho => by
        have hn := hh.none_next hx
        cases o with
        | dead => rfl
        | cells b => obtain ⟨l, e, _⟩ := hh.cells x b ho; rw [hn] at e; cases e
        | iter s p => obtain ⟨l, e, _⟩ := hh.iter x s p ho; rw [hn] at e; cases e
      obtain ⟨n, v2, h2, hb, o, rfl, hacc⟩ := hg args h A b hfree hga
      refine (callBody_sound (exec_sound hm hx hN hG hC hS n) f args h _ h2 hb ρ w cargs hh hJ hl).mono ?_
      rintro e w' ⟨v', ρ', rfl, s1, s2, s3⟩
      obtain ⟨b1, b2⟩ := hh.back s1 s2 hacc.keeps
      obtain ⟨o', rfl, ho⟩ := vr_pair s3
      split at he
      · rename_i hA
        cases he
        rcases hacc.row with ⟨rfl, _⟩ | ⟨x, fam, _, hne, _⟩
        · cases ho
          exact ⟨_, ρ, rfl, b2, b1, pair_vr .nilSlice⟩
        · exact absurd (by rw [hA]; rfl) hne
      · rename_i hA
        cases he
        rcases hacc.row with ⟨_, h3⟩ | ⟨x, fam, rfl, hne, hbk, hf, hmem, hfl, hx0, hx1⟩
        · exact absurd (by simpa using h3) hA
        · have hnone := hh.none_next (Nat.le_refl h.next)
          obtain ⟨l, hlx, hbr, hB, _, _⟩ := s2.cells x _ (get_of_blk hbk)
          have hB := hB rfl
          have hbr' : BlkR ρ w' l ⟨A.map (Value.int .i64), 3, 1, h.next, false⟩ := by
            obtain ⟨⟨c, fr, q1, q2, q3, q4⟩, q5, q6, q7, q8⟩ := hbr
            refine ⟨⟨c, fr, q1, q2, q3, fun i u hu => ?_⟩, q5, q6, q7, q8⟩
            obtain ⟨u', r1, r2⟩ := q4 i u hu
            refine ⟨u', r1, ?_⟩
            have hu2 : ∃ k, u = .int .i64 k := by
              have := List.mem_of_getElem? hu
              simp only [List.mem_map] at this
              obtain ⟨k, _, rfl⟩ := this
              exact ⟨k, rfl⟩
            obtain ⟨k, rfl⟩ := hu2
            exact (Flat.int .i64 k).same r2
          have hsep : ∀ z bz lz, h.get z = some (.cells bz) → ρ z = some lz → lz.b = l.b → bz.fam = h.next := by
            intro z bz lz hz hlz he
            exfalso
            have hz2 := hacc.keeps z _ hz (by simp)
            obtain ⟨lz0, e0, _, _, _, hfz⟩ := hh.cells z bz hz
            have hfamlt : bz.fam < h.next := by
              cases e : ρ bz.fam with
              | none => exact absurd e hfz
              | some lf => exact (hh.dom _ _ e).1
            rcases s2.sepC z x bz _ lz l hz2 (get_of_blk hbk) (s1.ext z lz hlz) hlx he with h4 | h4
            · simp only at h4; omega
            · cases h4.2
          have hal : ∀ z, (Alive (h.row (A.map (Value.int .i64)) 3 1).2 z → z = h.next ∨ Alive h z) ∧ (Wr (h.row (A.map (Value.int .i64)) 3 1).2 z → z = h.next ∨ Wr h z) := fun z =>
            alive_get (o := .cells ⟨A.map (Value.int .i64), 3, 1, h.next, false⟩) (fun z => by simp only [Heap.row, Heap.get_setMembers, Heap.get_push]) z
          have hhr : HR NG B (upd ρ h.next l) (h.row (A.map (Value.int .i64)) 3 1).2 w' := b1.add (b := ⟨A.map (Value.int .i64), 3, 1, h.next, false⟩) hnone (by rw [next_row]; omega) (by rw [next_row]; omega)
            (fun z => by simp only [Heap.row, Heap.get_setMembers, Heap.get_push]) (fun z bz hz hm => by
              simp only [Heap.row, Heap.members_set, Heap.members_push]
              split
              · rename_i e
                obtain ⟨_, _, _, _, _, hfz⟩ := hh.cells z bz hz
                rw [e] at hfz; exact absurd hnone hfz
              · exact hm) (by simp [Heap.row, Heap.members_set]) (.inl rfl) hbr' (fun _ => hB) hsep
          refine ⟨.tuple #[o', .bool b], upd ρ h.next l, rfl, ?_, hhr, pair_vr ?_⟩
          · refine Step.upd hnone (Nat.le_refl _) (by rw [next_row]; omega) hal ?_ s1.size s1.os s1.tape s1.output s1.keep
            exact s1.wr x l (.inl ⟨_, get_of_blk hbk, rfl⟩) hlx
          · have hlen : (A.map (Value.int .i64)).length = A.length := by simp
            rw [hlen] at ho
            cases ho with
            | slice _ _ l2 _ _ cap' a' hx2 k1 k2 k3 k4 =>
              rw [hlx] at hx2; cases hx2
              exact .slice h.next 0 _ _ _ _ _ (upd_same _ _ _) k1 k2 k3 k4
    · cases he
  · cases he
end
end Go.AX
