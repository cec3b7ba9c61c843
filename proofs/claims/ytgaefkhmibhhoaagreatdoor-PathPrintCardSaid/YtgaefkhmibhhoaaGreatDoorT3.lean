/- A part of the proof that rubriclaw22.PathPrint returns true for every path. -/
import Derived.Test.YtgaefkhmibhhoaaGreatDoorN3
import Derived.Test.YtgaefkhmibhhoaaGreatDoorT22
set_option linter.unusedSimpArgs false
set_option linter.unusedVariables false
namespace Go.AX
open Go Go.Proofs Go.RowKit

theorem exact5_r {k : Caller} {f : FuncId} (h : f ≠ 5) (args : List Value) (hp : Heap) : withS (exactS 5 g5) k f args hp = k f args hp := withS_r (exact_ne h _ _ _)
theorem pure_r {F f : FuncId} {g : List Value → Heap → Option Value} {k : Caller} (h : f ≠ F) (args : List Value) (hp : Heap) : withS (pureS F g) k f args hp = k f args hp := withS_r (pure_ne h _ _ _)
theorem ret_r {F f : FuncId} {g : List Value → Option (List Int × Bool)} {k : Caller} (h : f ≠ F) (args : List Value) (hp : Heap) : withS (retS F g) k f args hp = k f args hp := withS_r (ret_ne h _ _ _)

theorem print_s {F : FuncId} {h : Heap} {v : Value} {B : List Int} (hi : Ints h v B) (hl : B.length ≤ 8) (hb : ∀ n, n ∈ B → n < 2 ^ 63) : pureS F gPrint F [v] h = some (.string ⟨(printed B).toArray⟩, h) := by
  have hc : B.length ≤ 8 ∧ B.all (fun n => decide (n < 2 ^ 63)) = true := ⟨hl, List.all_eq_true.2 fun n hn => decide_eq_true (hb n hn)⟩
  unfold pureS gPrint
  rw [if_pos rfl]
  simp only [hi.of]
  rw [if_pos hc]
  rfl


section
variable (hm : Tryz.prog.follows .mixedOrders = true) (hx : XOK Tryz.prog) (hN : NOK Tryz.prog) (haw : awakeOk Tryz.prog 4000 9 = true)
include hm hx hN

theorem k12 (NG B : Nat) (hG : NG = Tryz.prog.globals.size) : KOK Tryz.prog NG B JM (pureS 12 g12) := ok12 hm hx hN hG JM_ok (S0_ok _ _ _ _)
theorem k7 (NG B : Nat) (hG : NG = Tryz.prog.globals.size) : KOK Tryz.prog NG B JM (pureS 7 gPrint) := ok7 hm hx hN hG JM_ok (k14 hm hx hN NG B hG) (fun h m h1 => s14 _ h m h1 h1)
theorem k6 (NG B : Nat) (hG : NG = Tryz.prog.globals.size) : KOK Tryz.prog NG B JM (pureS 6 gPrint) :=
  ok6 hm hx hN hG JM_ok (S := withS (pureS 12 g12) (pureS 13 g13)) (withS_sound (k12 hm hx hN NG B hG) ok13)
    (fun h m h1 => withS_l (by
      have hc : (0 : Int) ≤ m ∧ (m : Int) < 2 ^ 63 := ⟨by omega, by omega⟩
      unfold pureS g12
      rw [if_pos rfl]
      simp only [hc, and_self, if_true, Option.map_some]
      rfl))
    (fun h v xs hst hl hb hne => by
      rw [pure_r (by decide)]
      have hs : strsOf h v = some xs := by
        rcases hst with ⟨rfl, rfl⟩ | ⟨x, o, c, rfl, hr⟩
        · exact absurd rfl hne
        · simp only [strsOf, hr, Option.bind_some]
          exact mapM_strs xs
      have hj : (Lib.join (xs.map fun x => x.data.toList) [47]).length ≤ 140737488355328 := by
        cases xs with
        | nil => simp [Lib.join_nil]
        | cons y ys =>
          rw [List.map_cons, Lib.join_length]
          have hlen : ∀ zs : List ByteArray, (∀ x, x ∈ zs → x.size ≤ 20) → Lib.lens (zs.map fun x => x.data.toList) ≤ 20 * zs.length := by
            intro zs
            induction zs with
            | nil => intro _; simp [Lib.lens]
            | cons z zs ih =>
              intro hz
              have h1 := ih (fun x hx => hz x (by simp [hx]))
              have h2 : z.data.toList.length ≤ 20 := hz z (by simp)
              simp only [List.map_cons, Lib.lens, List.sum_cons, List.length_cons] at h1 ⊢
              omega
          have := hlen (y :: ys) hb
          rw [List.map_cons] at this
          simp only [List.length_cons, List.length_map, List.length_nil] at hl this ⊢
          omega
      have hc : xs ≠ [] ∧ xs.length ≤ 1000 ∧ (Lib.join (xs.map fun x => x.data.toList) [47]).length ≤ 140737488355328 := ⟨hne, by omega, hj⟩
      have e47 : (⟨#[47]⟩ : ByteArray).data.toList = [47] := rfl
      unfold pureS g13
      rw [if_pos rfl]
      simp only [hs, e47]
      rw [if_pos hc]
      rfl)

def top3 : Caller := withS (exactS 5 g5) (withS (pureS 6 gPrint) (withS (pureS 7 gPrint) (withS (retS 8 gRead) (withS (pureS 10 g10) (pureS 9 g9)))))
include haw
/-- The call, in a world in which the argument stands in a row of its own. -/
theorem pathPrint_calls (W : World) (hsz : Tryz.prog.globals.size ≤ W.heap.size) (hcell : ∃ m, W.cell? ⟨0, 0, none⟩ = some (.int .i64 m)) (ρ : Map) (h : Heap) (hh : HR Tryz.prog.globals.size W.heap.size ρ h W) (hw : ∀ x, ¬ Wr h x)
    (a0 a : Value) (c0 : Value) (hv : VR ρ a0 c0) (A : List Int) (h5 : g5 [a0] h = some (a, h)) (ha : Ints h a A) (hA : A.length ≤ 8) (hb : ∀ n, n ∈ A → n < 2 ^ 63) :
    Calls Tryz.prog 3 #[c0] W fun e w' => e = .returned (.bool true) ∧ Below W.heap.size W w' := by
  have h3 : 0 < Tryz.prog.globals.size := by
    have : Tryz.prog.globals.size = 3 := by kernel_rfl
    omega
  have hJ : JM ρ h W := ⟨hcell, by omega, fun x l hx => absurd hx (hw x)⟩
  have hfree : Free h := fun x o hx ho => by
    have hn := hh.none_next hx
    cases o with
    | dead => rfl
    | cells b => obtain ⟨l, e, _⟩ := hh.cells x b ho; rw [hn] at e; cases e
    | iter s p => obtain ⟨l, e, _⟩ := hh.iter x s p ho; rw [hn] at e; cases e
  have hS : KOK Tryz.prog Tryz.prog.globals.size W.heap.size JM top3 :=
    withS_sound (ok5 hm hx hN rfl JM_ok (S0_ok _ _ _ _)) (withS_sound (k6 hm hx hN _ _ rfl) (withS_sound (k7 hm hx hN _ _ rfl) (withS_sound (k8 hm hx hN _ _ rfl) (withS_sound (k10 hm hx hN _ _ rfl) (ok9 hm hx hN hsz haw)))))
  obtain ⟨n, v', h', hb2, rfl⟩ := f3_run top3 h hfree a0 a A ha hA hb
    (by unfold top3; exact withS_l (by unfold exactS; rw [if_pos rfl]; exact h5))
    (fun h v B hi hl hb => by unfold top3; rw [exact5_r (by decide)]; exact withS_l (print_s hi hl hb))
    (fun h v B hi hl hb => by unfold top3; rw [exact5_r (by decide), pure_r (by decide)]; exact withS_l (print_s hi hl hb))
    (fun h args => by
      unfold top3
      rw [exact5_r (by decide), pure_r (by decide), pure_r (by decide)]
      cases e : retS 8 gRead 8 args h with
      | some r => exact withS_l e
      | none => rw [withS_r e, withS_r (pure_ne (by decide) _ _ _), pure_ne (by decide)])
    (fun h args => by
      unfold top3
      rw [exact5_r (by decide), pure_r (by decide), pure_r (by decide), ret_r (by decide)]
      cases e : pureS 10 g10 10 args h with
      | some r => exact withS_l e
      | none => rw [withS_r e, pure_ne (by decide)])
    (fun h => by
      unfold top3
      rw [exact5_r (by decide), pure_r (by decide), pure_r (by decide), ret_r (by decide), pure_r (by decide)]
      rfl)
  refine (callBody_sound (exec_sound hm hx hN rfl JM_ok hS n) 3 [a0] _ _ h' hb2 ρ W [c0] hh hJ (.cons hv (.nil _))).mono ?_
  rintro e w' ⟨v', ρ', rfl, g1, g2, g3⟩
  cases g3
  exact ⟨rfl, g1.os, g1.tape, g1.output, g1.size, fun k hk => g1.keep k hk fun x l hx => absurd hx (hw x)⟩
end
end Go.AX
