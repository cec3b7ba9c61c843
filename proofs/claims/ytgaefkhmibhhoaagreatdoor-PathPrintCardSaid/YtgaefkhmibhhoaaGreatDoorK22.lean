/- A part of the proof that rubriclaw22.PathPrint returns true for every path. -/
import Derived.Test.YtgaefkhmibhhoaaGreatDoorP22
import Derived.Test.YtgaefkhmibhhoaaGreatDoorAxExt
import Derived.Test.YtgaefkhmibhhoaaGreatDoorShelf
set_option linter.unusedSimpArgs false
set_option linter.unusedVariables false
namespace Go.AX
open Go Go.Proofs Go.RowKit

/-- The one variable that Split wants holds some number, and nothing that lives in the evaluator stands for it. -/
def JM : Map → Heap → World → Prop := fun ρ h w => (∃ m, w.cell? ⟨0, 0, none⟩ = some (.int .i64 m)) ∧ 0 < w.heap.size ∧ ∀ x l, Wr h x → ρ x = some l → l.b ≠ 0
theorem cell_block {w w' : World} {a : Addr} (h : w'.heap[a.block]? = w.heap[a.block]?) : w'.cell? a = w.cell? a := World.cell?_of_block (w := w) h
theorem JM_ok : JC JM := by
  intro n ρ h w ρ' h' w' s ⟨⟨m, h1⟩, h2, h3⟩
  refine ⟨⟨m, ?_⟩, Nat.lt_of_lt_of_le h2 s.size, fun x l hx hl => ?_⟩
  · rw [cell_block (w := w) (s.keep 0 h2 h3)]; exact h1
  · rcases s.wr x l hx hl with h4 | ⟨y, l0, hy, hl0, e⟩
    · omega
    · rw [← e]; exact h3 y l0 hy hl0

/-- A step that leaves all that was as it was. -/
theorem below_step {NG B : Nat} {ρ : Map} {h : Heap} {w w' : World} (hh : HR NG B ρ h w) (hb : Below w.heap.size w w') : HR NG B ρ h w' ∧ Step h.next ρ h w ρ h w' := by
  refine ⟨hh.world hb.size fun x l hx => hb.block _ (hh.dom x l hx).2, .same (Nat.le_refl _) (fun _ => ⟨id, id⟩) hb.os hb.tape hb.output hb.size fun b hlt _ => hb.block b hlt⟩

def strsOf (h : Heap) (v : Value) : Option (List ByteArray) :=
  match v with
  | .slice (some ⟨x, o, none⟩) n _ => (h.read x o n).bind fun l => l.mapM fun | .string s => some s | _ => none
  | _ => none
theorem mapM_strs : ∀ xs : List ByteArray, (xs.map Value.string).mapM (fun | .string s => some s | _ => none) = some xs := by
  intro xs
  induction xs with
  | nil => rfl
  | cons x xs ih =>
    simp only [List.map_cons, List.mapM_cons]
    rw [ih]; rfl
theorem mapM_strs_inv : ∀ (l : List Value) (xs : List ByteArray), l.mapM (fun | .string s => some s | _ => (none : Option ByteArray)) = some xs → l = xs.map Value.string := by
  intro l
  induction l with
  | nil => intro xs h; simp at h; subst h; rfl
  | cons v l ih =>
    intro xs h
    rw [List.mapM_cons] at h
    simp only [Option.bind_eq_bind, Option.bind_eq_some_iff, Option.pure_def, Option.some.injEq] at h
    obtain ⟨s, h1, ys, h2, rfl⟩ := h
    cases v <;> simp at h1
    subst h1
    rw [ih ys h2]; rfl

def g13 (args : List Value) (h : Heap) : Option Value :=
  match args with
  | [v, .string sep] =>
    match strsOf h v with
    | some xs => if xs ≠ [] ∧ xs.length ≤ 1000 ∧ (Lib.join (xs.map fun x => x.data.toList) sep.data.toList).length ≤ 140737488355328 then some (.string ⟨(Lib.join (xs.map fun x => x.data.toList) sep.data.toList).toArray⟩) else none
    | none => none
  | _ => none
theorem ok13 {NG B : Nat} {J : Map → Heap → World → Prop} : KOK Tryz.prog NG B J (pureS 13 g13) := by
  intro f args h v h' he ρ w cargs hh hJ hl
  unfold pureS at he
  split at he
  · rename_i hf
    subst hf
    simp only [Option.map_eq_some_iff, Prod.mk.injEq] at he
    obtain ⟨v1, hg, rfl, rfl⟩ := he
    unfold g13 at hg
    split at hg
    · rename_i u sep
      split at hg
      · rename_i xs hxs
        split at hg
        · rename_i hc
          cases hg
          unfold strsOf at hxs
          split at hxs
          · rename_i x o n c
            simp only [Option.bind_eq_some_iff] at hxs
            obtain ⟨l, hr, hm⟩ := hxs
            have hl2 := mapM_strs_inv l xs hm
            have hlen := read_len hr
            subst hl2
            simp only [List.length_map] at hlen
            subst hlen
            obtain ⟨v', l', rfl, hv, hl3⟩ := hl.cons_inv
            obtain ⟨s', l'', rfl, hs, hl4⟩ := hl3.cons_inv
            have := hl4.nil_inv
            subst this
            cases hs
            cases hv with
            | slice _ _ lx _ _ cap' a' hx k1 k2 k3 k4 =>
              have hpos : 0 < xs.length := List.length_pos_iff.2 hc.1
              obtain ⟨rfl, hin⟩ := k3 (by omega)
              have hcell : ∀ (j : Nat) (y : ByteArray), xs[j]? = some y → w.cell? ⟨lx.b, lx.base + o + j, none⟩ = some (.string y) := by
                intro j y hy
                unfold Heap.read at hr
                split at hr
                · rename_i b hb
                  obtain ⟨l2, hx2, ⟨⟨cc, fr, q1, q2, q3, q4⟩, q5⟩, _⟩ := hh.cells x b (get_of_blk hb)
                  rw [hx] at hx2; cases hx2
                  obtain ⟨t1, t2, t3, t4⟩ := take_drop_get hr
                  have hj : j < xs.length := (List.getElem?_eq_some_iff.1 hy).1
                  have := t3 j hj
                  simp only [List.getElem?_map, hy, Option.map_some] at this
                  obtain ⟨u', r1, r2⟩ := q4 (o + j) (.string y) this.symm
                  cases r2
                  have e : lx.base + o + j = lx.base + (o + j) := by omega
                  rw [e]
                  exact cell_of q1 r1
                · cases hr
              refine (Tryz.strings_Join lx.b (lx.base + o) cap' xs sep w hcell (hh.dom x lx hx).2 (by omega) k2 hc.2.2).mono ?_
              rintro e w' ⟨rfl, hb⟩
              obtain ⟨b1, b2⟩ := below_step hh hb
              exact ⟨_, ρ, rfl, b2, b1, .string _⟩
          · cases hxs
        · cases hg
      · cases hg
    · cases hg
  · cases he

/-- awake. -/
def g9 (args : List Value) (_ : Heap) : Option Value := match args with | [] => some (.bool true) | _ => none
theorem ok9 {NG B : Nat} {J : Map → Heap → World → Prop} (hm : Tryz.prog.follows .mixedOrders = true) (hx : XOK Tryz.prog) (hN : NOK Tryz.prog) (hG : Tryz.prog.globals.size ≤ B) (haw : awakeOk Tryz.prog 4000 9 = true) : KOK Tryz.prog NG B J (pureS 9 g9) := by
  intro f args h v h' he ρ w cargs hh hJ hl
  unfold pureS at he
  split at he
  · rename_i hf
    subst hf
    simp only [Option.map_eq_some_iff, Prod.mk.injEq] at he
    obtain ⟨v1, hg, rfl, rfl⟩ := he
    unfold g9 at hg
    split at hg
    · cases hg
      have := hl.nil_inv
      subst this
      refine (awake_sound hm hx hN haw w (Nat.le_trans hG hh.room)).mono ?_
      rintro e w' ⟨rfl, hb⟩
      obtain ⟨b1, b2⟩ := below_step hh hb
      exact ⟨_, ρ, rfl, b2, b1, .bool _⟩
    · cases hg
  · cases he

/-- strings.Split at a slash. -/
def S15 : Caller := fun f args h =>
  if f = 15 then
    match args with
    | [.string s, .string sep] => if s.size ≤ 1000 ∧ sep = ⟨#[47]⟩ then some (.slice (some ⟨h.next, 0, none⟩) (Lib.countB s ⟨#[47]⟩ + 1) (Lib.countB s ⟨#[47]⟩ + 1), (h.row ((Lib.splitB ⟨#[47]⟩ 0 (Lib.countB s ⟨#[47]⟩) s).map Value.string) 9 1).2) else none
    | _ => none
  else none
theorem split_len (s : ByteArray) : (Lib.splitB ⟨#[47]⟩ 0 (Lib.countB s ⟨#[47]⟩) s).length = Lib.countB s ⟨#[47]⟩ + 1 := Lib.splitB_all ⟨#[47]⟩ (by decide) 0 _ s rfl
theorem ok15 {NG B : Nat} : KOK Tryz.prog NG B JM S15 := by
  intro f args h v h' he ρ w cargs hh hJ hl
  unfold S15 at he
  split at he
  · rename_i hf
    subst hf
    split at he
    · rename_i s sep
      split at he
      · rename_i hc
        obtain ⟨hc1, rfl⟩ := hc
        cases he
        obtain ⟨s', l', rfl, hs, hl3⟩ := hl.cons_inv
        obtain ⟨sep', l'', rfl, hsep, hl4⟩ := hl3.cons_inv
        have := hl4.nil_inv
        subst this
        cases hs
        cases hsep
        obtain ⟨⟨m, hm⟩, _, _⟩ := hJ
        refine (Tryz.strings_Split s ⟨#[47]⟩ m w (by omega) hm (by decide)).mono ?_
        rintro e w' ⟨rfl, rfl⟩
        have hlen := split_len s
        obtain ⟨r1, r2⟩ := row_sound (n := ⟨(Lib.splitB ⟨#[47]⟩ 0 (Lib.countB s ⟨#[47]⟩) s).map Value.string, 9, 1, none⟩) (c := ((Lib.splitB ⟨#[47]⟩ 0 (Lib.countB s ⟨#[47]⟩) s).map Value.string).toArray) (fr := (0, 0)) (d := w.drawn) hh (.inl rfl)
          (by
            have e : ((Lib.splitB ⟨#[47]⟩ 0 (Lib.countB s ⟨#[47]⟩) s).map Value.string).toArray.toList.take ((Lib.splitB ⟨#[47]⟩ 0 (Lib.countB s ⟨#[47]⟩) s).map Value.string).length = (Lib.splitB ⟨#[47]⟩ 0 (Lib.countB s ⟨#[47]⟩) s).map Value.string := List.take_of_length_le (Nat.le_refl _)
            rw [e]
            refine LR.refl_of fun u hu => ?_
            simp only [List.mem_map] at hu
            obtain ⟨x, _, rfl⟩ := hu
            exact .string _) (by simp)
        refine ⟨_, _, rfl, r2, r1, ?_⟩
        have := VR.slice (ρ := upd ρ h.next ⟨w.heap.size, 0, ((Lib.splitB ⟨#[47]⟩ 0 (Lib.countB s ⟨#[47]⟩) s).map Value.string).toArray.size, 1, ((Lib.splitB ⟨#[47]⟩ 0 (Lib.countB s ⟨#[47]⟩) s).map Value.string).length⟩) h.next 0 _ (Lib.countB s ⟨#[47]⟩ + 1) (Lib.countB s ⟨#[47]⟩ + 1) (Lib.countB s ⟨#[47]⟩ + 1) ⟨w.heap.size, 0, none⟩ (upd_same _ _ _) (Nat.le_refl _) (Nat.le_refl _) (fun _ => ⟨rfl, by simp [hlen]⟩) (.inl rfl)
        exact this
      · cases he
    · cases he
  · cases he
end Go.AX
