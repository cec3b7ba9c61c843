/- A part of the proof that rubriclaw22.PathPrint returns true for every path. -/
import Derived.Test.YtgaefkhmibhhoaaGreatDoorN4
set_option linter.unusedSimpArgs false
set_option linter.unusedVariables false
namespace Go.AX
open Go Go.Proofs Go.RowKit

theorem withS_l {S k : Caller} {f : FuncId} {args : List Value} {h : Heap} {r : Value × Heap} (hs : S f args h = some r) : withS S k f args h = some r := by unfold withS; rw [hs]
theorem withS_r {S k : Caller} {f : FuncId} {args : List Value} {h : Heap} (hs : S f args h = none) : withS S k f args h = k f args h := by unfold withS; rw [hs]
theorem pure_ne {F f : FuncId} (h : f ≠ F) (g : List Value → Heap → Option Value) (args : List Value) (hp : Heap) : pureS F g f args hp = none := by unfold pureS; rw [if_neg h]
theorem ret_ne {F f : FuncId} (h : f ≠ F) (g : List Value → Option (List Int × Bool)) (args : List Value) (hp : Heap) : retS F g f args hp = none := by unfold retS; rw [if_neg h]
theorem S15_ne {f : FuncId} (h : f ≠ 15) (args : List Value) (hp : Heap) : S15 f args hp = none := by unfold S15; rw [if_neg h]

theorem s14 (K : Nat) (h : Heap) (m : Nat) (hm : m < 2 ^ 63) (hK : m < K) : pureS 14 (g14 K) 14 [.int .i64 (m : Int)] h = some (.string ⟨(dec m).toArray⟩, h) := by
  have hc : (0 : Int) ≤ m ∧ (m : Int) < K ∧ (m : Int) < 2 ^ 63 := ⟨by omega, by omega, by omega⟩
  have hg : g14 K [.int .i64 (m : Int)] h = some (.string ⟨(dec m).toArray⟩) := by
    show (if 0 ≤ (m : Int) ∧ (m : Int) < (K : Int) ∧ (m : Int) < 2 ^ 63 then some (Value.string ⟨(dec (m : Int).toNat).toArray⟩) else none) = _
    rw [if_pos hc]
    rfl
  unfold pureS
  rw [if_pos rfl, hg]
  rfl
section
variable (hm : Tryz.prog.follows .mixedOrders = true) (hx : XOK Tryz.prog) (hN : NOK Tryz.prog) (haw : awakeOk Tryz.prog 4000 9 = true)
include hm hx hN

theorem k14 (NG B : Nat) (hG : NG = Tryz.prog.globals.size) : KOK Tryz.prog NG B JM (pureS 14 (g14 (2 ^ 63))) := ok14 hm hx hN hG JM_ok _
theorem k16 (NG B : Nat) (hG : NG = Tryz.prog.globals.size) : KOK Tryz.prog NG B JM (pureS 16 g16) := ok16 hm hx hN hG JM_ok (S0_ok _ _ _ _)
theorem k10 (NG B : Nat) (hG : NG = Tryz.prog.globals.size) : KOK Tryz.prog NG B JM (pureS 10 g10) := ok10 hm hx hN hG JM_ok (S0_ok _ _ _ _)
theorem k11 (NG B : Nat) (hG : NG = Tryz.prog.globals.size) : KOK Tryz.prog NG B JM (retS 11 gRead11) := ok11 hm hx hN hG JM_ok (k14 hm hx hN NG B hG) (fun h m h1 => s14 _ h m h1 h1)
theorem k8 (NG B : Nat) (hG : NG = Tryz.prog.globals.size) : KOK Tryz.prog NG B JM (retS 8 gRead) :=
  ok8 hm hx hN hG JM_ok (S := withS (pureS 16 g16) S15) (withS_sound (k16 hm hx hN NG B hG) ok15)
    (fun h s hs => withS_l (by simp only [pureS, g16, if_true]; rw [if_pos hs]; rfl))
    (fun h s hs => by
      obtain ⟨ps, h1, h2, h3, h4, h5⟩ := S15_says h s hs
      exact ⟨ps, h1, h2, h3, h4, by rw [withS_r (pure_ne (by decide) _ _ _)]; exact h5⟩)

def top4 : Caller := withS (retS 8 gRead) (withS (retS 11 gRead11) (withS (pureS 10 g10) (pureS 9 g9)))
include haw
theorem pathRead_calls (W : World) (hsh : W.ShapedOpen Tryz.prog) (hsz : Tryz.prog.globals.size ≤ W.heap.size) (hcell : ∃ m, W.cell? ⟨0, 0, none⟩ = some (.int .i64 m)) (s : ByteArray) :
    Calls Tryz.prog 4 #[.string s] W fun e w' => e = .returned (.bool true) ∧ Below W.heap.size W w' := by
  let ρ : Map := fun g => if g < Tryz.prog.globals.size then some ⟨g, 0, 0, 0, 0⟩ else none
  have hget : ∀ x, (⟨.lf, Tryz.prog.globals.size, .lf⟩ : Heap).get x = none := fun x => by simp [Heap.get, Tr.get_lf]
  have hh : HR Tryz.prog.globals.size W.heap.size ρ ⟨.lf, Tryz.prog.globals.size, .lf⟩ W := {
    dom := fun x l hx => by
      simp only [ρ] at hx
      split at hx
      · cases hx; simp only; omega
      · cases hx
    cells := fun x b hb => by rw [hget] at hb; cases hb
    iter := fun x s p hb => by rw [hget] at hb; cases hb
    sepC := fun x y bx bY lx ly hb => by rw [hget] at hb; cases hb
    sepI := fun x y s p s' p' lx ly hb => by rw [hget] at hb; cases hb
    glob := fun g hg => ⟨_, by simp only [ρ]; rw [if_pos hg], rfl, rfl⟩
    next := Nat.le_refl _
    room := Nat.le_refl _ }
  have hka : ∀ x, ¬ Alive (⟨.lf, Tryz.prog.globals.size, .lf⟩ : Heap) x := by
    rintro x (⟨b, hb⟩ | ⟨s, p, hb⟩) <;> · rw [hget] at hb; cases hb
  have h3 : 0 < Tryz.prog.globals.size := by
    have : Tryz.prog.globals.size = 3 := by kernel_rfl
    omega
  have hJ : JM ρ ⟨.lf, Tryz.prog.globals.size, .lf⟩ W := ⟨hcell, by omega, fun x l hx => absurd hx.alive (hka x)⟩
  have hfree : Free (⟨.lf, Tryz.prog.globals.size, .lf⟩ : Heap) := fun x o _ ho => by rw [hget] at ho; cases ho
  have hS : KOK Tryz.prog Tryz.prog.globals.size W.heap.size JM top4 := withS_sound (k8 hm hx hN _ _ rfl) (withS_sound (k11 hm hx hN _ _ rfl) (withS_sound (k10 hm hx hN _ _ rfl) (ok9 hm hx hN hsz haw)))
  obtain ⟨n, v', h', hb, rfl⟩ := f4_run top4 ⟨.lf, Tryz.prog.globals.size, .lf⟩ hfree s
    (fun h args => by
      unfold top4
      cases e : retS 8 gRead 8 args h with
      | some r => exact withS_l e
      | none => rw [withS_r e, withS_r (ret_ne (by decide) _ _ _), withS_r (pure_ne (by decide) _ _ _), pure_ne (by decide)])
    (fun h args => by
      unfold top4
      rw [withS_r (ret_ne (by decide) _ _ _)]
      cases e : retS 11 gRead11 11 args h with
      | some r => exact withS_l e
      | none => rw [withS_r e, withS_r (pure_ne (by decide) _ _ _), pure_ne (by decide)])
    (fun h args => by
      unfold top4
      rw [withS_r (ret_ne (by decide) _ _ _), withS_r (ret_ne (by decide) _ _ _)]
      cases e : pureS 10 g10 10 args h with
      | some r => exact withS_l e
      | none => rw [withS_r e, pure_ne (by decide)])
    (fun h => by
      unfold top4
      rw [withS_r (ret_ne (by decide) _ _ _), withS_r (ret_ne (by decide) _ _ _), withS_r (pure_ne (by decide) _ _ _)]
      rfl)
  refine (callBody_sound (exec_sound hm hx hN rfl JM_ok hS n) 4 [.string s] _ _ h' hb ρ W [.string s] hh hJ (.cons (.string s) (.nil _))).mono ?_
  rintro e w' ⟨v', ρ', rfl, g1, g2, g3⟩
  cases g3
  exact ⟨rfl, g1.os, g1.tape, g1.output, g1.size, fun k hk => g1.keep k hk fun x l hx => absurd hx.alive (hka x)⟩
end
end Go.AX
