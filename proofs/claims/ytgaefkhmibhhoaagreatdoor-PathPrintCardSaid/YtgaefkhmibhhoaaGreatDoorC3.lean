/- A part of the proof that rubriclaw22.PathPrint returns true for every path. -/
import Derived.Test.YtgaefkhmibhhoaaGreatDoorT3
import Derived.Test.YtgaefkhmibhhoaaGreatDoorC4
import Derived.Test.YtgaefkhmibhhoaaGreatDoorAxPost
import Derived.Test.YtgaefkhmibhhoaaGreatDoorAxArg
import Derived.ChangeSlices
set_option linter.unusedSimpArgs false
set_option linter.unusedVariables false
namespace Go.Proofs.YtgaefkhmibhhoaaGreatDoor.pathPrint
open Go Go.ChangeShapes Go.WideShapes Go.ChangeAt Go.RowKit Go.AX
open Go.ChangeMaps

theorem laidOut : laidOutB Tryz.prog = true := by kernel_rfl
theorem cells3 : Tryz.prog.cellsOf 3 = 1 := by kernel_rfl
theorem size3 : Tryz.prog.globals.size = 3 := by kernel_rfl

set_option maxRecDepth 100000 in
theorem contract (hm : Tryz.prog.follows .mixedOrders = true) (hx : XOK Tryz.prog) (hN : NOK Tryz.prog) (haw : awakeOk Tryz.prog 4000 9 = true) (H : Type) (enc : TypeId × Value → H) (W : World) (base : Nat) (args : Array Value) (ds gs : List (DataW H)) (before : List MemPlace)
    (hval : ∀ (j : Nat) t v, Tryz.f3.params[j]? = some t → args[j]? = some v → Value.okWide Tryz.prog W .any base t v)
    (hW : DataW.Whole enc Tryz.prog Tryz.f3.params.toList Rows.pathPrintSpec.vars false W args.toList ds gs before) (hsh : W.ShapedOpen Tryz.prog) :
    Calls Tryz.prog 3 args W fun e W' => ∃ v, e = .returned v ∧ Rows.pathPrintSpec.post enc Tryz.prog Tryz.f3 false true false false W args v W' := by
  have hW' := hW
  obtain ⟨p, q, hA0, hV, rfl, hfz, hnd⟩ := hW
  have hA : DataW.TrodAll enc Tryz.prog W 0 (fun _ => true) true Tryz.f3.params.toList args.toList ds p := hA0
  rw [Tryz.params3] at hA hval
  obtain ⟨v0, vs0, d0, ds0, p0, q0, hargs, rfl, rfl, h0, r0⟩ := trodAll_cons hA
  obtain ⟨rfl, rfl, rfl⟩ := trodAll_nil r0
  obtain rfl : args = #[v0] := by cases args; simp_all
  obtain ⟨rfl, rfl⟩ := trodVars_none hV
  have hroom := pathRead.room hsh
  have hcell := pathRead.cell hsh
  have key : (∃ (ρ : Map) (h : Heap) (a0 a : Value) (A : List Int), HR Tryz.prog.globals.size W.heap.size ρ h W ∧ (∀ x, ¬ Wr h x) ∧ VR ρ a0 v0 ∧ g5 [a0] h = some (a, h) ∧ Ints h a A ∧ A.length ≤ 8 ∧ ∀ n, n ∈ A → n < 2 ^ 63) →
      Calls Tryz.prog 3 #[v0] W fun e W' => ∃ v, e = .returned v ∧ Rows.pathPrintSpec.post enc Tryz.prog Tryz.f3 false true false false W #[v0] v W' := by
    rintro ⟨ρ, h, a0, a, A, hh, hw, hv, h5, ha, hl, hb⟩
    refine (pathPrint_calls hm hx hN haw W hroom hcell ρ h hh hw a0 a v0 hv A h5 ha hl hb).mono fun e W' ⟨he, hbl⟩ => ⟨_, he, ?_⟩
    refine law_post laidOut (tb := 4) rfl hW' (fun t ht => ?_) rfl Tryz.underlying4 rfl rfl rfl hbl
    rw [Tryz.params3] at ht
    simp only [List.mem_singleton] at ht
    subst ht
    exact ⟨by kernel_rfl, by decide +kernel⟩
  refine key ?_
  obtain ⟨a0, len, cap, rfl⟩ := okWide_slice Tryz.underlying22 (hval 0 22 v0 rfl rfl)
  obtain ⟨fuel0, hf⟩ := h0
  rcases open_ints Tryz.underlying22 Tryz.underlying3 cells3 hf with ⟨hcs, hx⟩ | ⟨a, len', cap', zs, hcs, _, hl, hmx, hz, hx, hc, hwz⟩
  · -- the nil slice
    simp [Value.cells] at hcs
    obtain ⟨rfl, rfl, rfl⟩ := hcs
    have hget : ∀ x, (⟨.lf, Tryz.prog.globals.size, .lf⟩ : Heap).get x = none := fun x => by simp [Heap.get, Tr.get_lf]
    refine ⟨fun g => if g < Tryz.prog.globals.size then some ⟨g, 0, 0, 0, 0⟩ else none, ⟨.lf, Tryz.prog.globals.size, .lf⟩, .slice none 0 0, .slice none 0 0, [], ?_, ?_, .nilSlice, rfl, .inl ⟨rfl, rfl⟩, by simp, by simp⟩
    · exact {
        dom := fun x l hx => by
          split at hx
          · cases hx; simp only; omega
          · cases hx
        cells := fun x b hb => by rw [hget] at hb; cases hb
        iter := fun x s p hb => by rw [hget] at hb; cases hb
        sepC := fun x y bx bY lx ly hb => by rw [hget] at hb; cases hb
        sepI := fun x y s p s' p' lx ly hb => by rw [hget] at hb; cases hb
        glob := fun g hg => ⟨⟨g, 0, 0, 0, 0⟩, by rw [if_pos hg], rfl, rfl⟩
        next := Nat.le_refl _
        room := Nat.le_refl _ }
    · rintro x (⟨b, hb, _⟩ | ⟨s, p, hb⟩) <;> · rw [hget] at hb; cases hb
  · simp [Value.cells] at hcs
    obtain ⟨rfl, rfl, rfl⟩ := hcs
    have hzl : zs.length = cap := by simpa using hz
    have hlen : ∀ k, (zs.take k).length ≤ k := fun k => List.length_take_le _ _
    have hbd : ∀ n, n ∈ zs → n < 2 ^ 63 := fun n hn => by
      have := hwz n hn
      simp [Lit.wf, IntKind.max, IntKind.min, IntKind.bits, IntKind.signed] at this
      omega
    have hcap : cap < 2 ^ 63 := by have := hmx; unfold maxLen at this; omega
    have hg5 : ∀ (e : TypeId), g5 [.slice (some ⟨Tryz.prog.globals.size, 0, none⟩) len cap] (heap1 Tryz.prog.globals.size (zs.map (Value.int .i64)) e) = some (.slice (some ⟨Tryz.prog.globals.size, 0, none⟩) (min len 8) cap, heap1 Tryz.prog.globals.size (zs.map (Value.int .i64)) e) := by
      intro e
      have hb : (heap1 Tryz.prog.globals.size (zs.map (Value.int .i64)) e).blk Tryz.prog.globals.size = some ⟨zs.map (Value.int .i64), e, 1, Tryz.prog.globals.size, true⟩ := by
        unfold Heap.blk; rw [heap1_get, if_pos rfl]
      have hc3 : len ≤ cap ∧ cap < 2 ^ 63 ∧ ((heap1 Tryz.prog.globals.size (zs.map (Value.int .i64)) e).blk Tryz.prog.globals.size).map (·.es) = some 1 := ⟨hl, hcap, by rw [hb]; rfl⟩
      unfold g5
      simp only
      rw [if_pos hc3]
    have hA8 : (zs.take (min len 8)).length ≤ 8 := by have := hlen (min len 8); omega
    have hAb : ∀ n, n ∈ zs.take (min len 8) → n < 2 ^ 63 := fun n hn => hbd n (List.mem_of_mem_take hn)
    by_cases hcap0 : cap = 0
    · -- a slice of which nothing can be read
      obtain rfl : zs = [] := List.length_eq_zero_iff.1 (by omega)
      obtain ⟨mm, hmm⟩ := hcell
      obtain ⟨c, el, fr, hW0⟩ : ∃ c el fr, W.heap[0]? = some (.cells c el fr) := by
        unfold World.cell? at hmm
        split at hmm
        · rename_i c el fr e0; exact ⟨c, el, fr, e0⟩
        · cases hmm
      obtain ⟨ρ, hr1, hr2⟩ := heap1_hr (ng := Tryz.prog.globals.size) (L := []) (l := ⟨0, 0, c.size, 1, 0⟩) hroom hW0 rfl rfl (by simp) rfl (fun i v hv => by simp at hv)
      refine ⟨ρ, _, .slice (some ⟨Tryz.prog.globals.size, 0, none⟩) len cap, _, _, hr2, heap1_wr _ _ _, ?_, hg5 el, ints_read _ [] el _ (by omega) _, hA8, hAb⟩
      exact .slice _ 0 _ _ _ _ _ hr1 (Nat.le_refl _) hl (fun h => absurd hcap0 h) (.inl rfl)
    · have h1 := hc 0 (by omega)
      obtain ⟨c, el, fr, hW0, hsp⟩ : ∃ c el fr, W.heap[a.block]? = some (.cells c el fr) ∧ a.spot = none := by
        unfold World.cell? at h1
        split at h1
        · rename_i c el fr e0
          refine ⟨c, el, fr, by simpa [Addr.add] using e0, ?_⟩
          split at h1
          · cases h1
          · rename_i hs
            simpa [Addr.add] using hs
        · cases h1
      obtain ⟨blk, off, spot⟩ := a
      simp only at hsp hW0
      subst hsp
      have hcc : ∀ i, i < zs.length → c[off + i]? = some (.int .i64 (zs.getD i 0)) := by
        intro i hi
        have := hc i hi
        rw [add_plain] at this
        simpa [World.cell?, hW0] using this
      have hcs : off + zs.length ≤ c.size := by
        have := hcc (zs.length - 1) (by omega)
        have := (Array.getElem?_eq_some_iff.1 this).1
        omega
      obtain ⟨ρ, hr1, hr2⟩ := heap1_hr (ng := Tryz.prog.globals.size) (L := zs.map (Value.int .i64)) (l := ⟨blk, off, c.size, 1, zs.length⟩) hroom hW0 rfl rfl (by simpa using hcs) (by simp) (fun i v hv => by
        simp only [List.getElem?_map, Option.map_eq_some_iff] at hv
        obtain ⟨z, hz1, rfl⟩ := hv
        have hi : i < zs.length := (List.getElem?_eq_some_iff.1 hz1).1
        refine ⟨?_, .int _ _⟩
        rw [hcc i hi]
        simp [List.getD, hz1])
      refine ⟨ρ, _, .slice (some ⟨Tryz.prog.globals.size, 0, none⟩) len cap, _, _, hr2, heap1_wr _ _ _, ?_, hg5 el, ints_read _ zs el _ (by omega) _, hA8, hAb⟩
      exact .slice _ 0 _ _ _ _ _ hr1 (Nat.le_refl _) hl (fun _ => ⟨rfl, by simp only [Nat.add_zero, Nat.mul_one]; omega⟩) (.inl rfl)

theorem laid_met (os : Os) : laidMet Tryz.prog Rows.pathPrintRow.laid ((pathRead.laidWorld os).forCall (fun _ _ => 0) ⟨#[], #[.slice none 0 0], []⟩).memory :=
  laidMet_of_run' 8 (by kernel_rfl) (by kernel_rfl)
theorem reads (os : Os) {H : Type} (enc : TypeId × Value → H) : ∃ places, DataW.whole enc Tryz.prog ((pathRead.laidWorld os).forCall (fun _ _ => 0) ⟨#[], #[.slice none 0 0], []⟩).memory Tryz.f3.params.toList Rows.pathPrintSpec.vars false #[Value.slice none 0 0].toList 8 = some ([.nil], [], places) :=
  ⟨[], by kernel_rfl⟩

set_option maxRecDepth 100000 in
theorem lifted (hm : Tryz.prog.follows .mixedOrders = true) (hx : XOK Tryz.prog) (hN : NOK Tryz.prog) (haw : awakeOk Tryz.prog 4000 9 = true) (os : Os) (started : os.Started) (H : Type) (enc : TypeId × Value → H) (F : Stop.Interp) :
    ReturnsInHanded {} Tryz.checked os 3 .any ((OpenSpec.ofChange Rows.pathPrintSpec).preRow enc Tryz.prog Tryz.f3 Rows.pathPrintRow.domain false Rows.pathPrintRow.laid) (((OpenSpec.ofChange Rows.pathPrintSpec).at F).post enc Tryz.prog Tryz.f3 false true false false) := by
  obtain ⟨places, hr⟩ := reads os enc
  refine returnsInHanded_of_row (C := Tryz.checked) (s := OpenSpec.ofChange Rows.pathPrintSpec) pathRead.own started (by kernel_rfl) Tryz.func3
    (witness_row_at (enc := enc) (C := Tryz.checked) false (pathRead.laidWorld os) #[.slice none 0 0] rfl (by kernel_rfl) (by kernel_rfl) (by kernel_rfl)
      (OpenSpec.preRow_of_cond 8 hr (by kernel_rfl) (fun k hk => by cases hk) (by kernel_rfl) (laid_met os))) ?_
  intro W base args ds gs before hval hW _ _ _ _ hsh _
  exact contract hm hx hN haw H enc W base args ds gs before hval hW hsh
end Go.Proofs.YtgaefkhmibhhoaaGreatDoor.pathPrint
