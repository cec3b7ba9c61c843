/- A part of the proof that rubriclaw22.PathRead returns true for every text. -/
import Derived.Test.YtgaefkhmibhhoaaGreatDoorAxQuiet5
set_option linter.unusedSimpArgs false
set_option linter.unusedVariables false
namespace Go.AX
open Go
section
variable {P : Program} {w : World} {NG B : Nat} {ρ : Map} {h : Heap}

theorem bytesOf_eq : ∀ (l : List Value) {b : List UInt8} (_ : bytesOf l = some b), ∃ ns : List Int, l = ns.map (Value.int .u8) ∧ b = ns.map fun n => UInt8.ofNat n.toNat := by
  intro l
  induction l with
  | nil => intro b hb; simp only [bytesOf, Option.some.injEq] at hb; exact ⟨[], rfl, hb.symm⟩
  | cons v l ih =>
    intro b hb
    unfold bytesOf at hb
    split at hb
    · rename_i e; cases e
    · rename_i n l0 e
      cases e
      simp only [Option.map_eq_some_iff] at hb
      obtain ⟨b', h1, rfl⟩ := hb
      obtain ⟨ns, rfl, rfl⟩ := ih h1
      exact ⟨n :: ns, rfl, rfl⟩
    · cases hb
theorem runesOf_eq : ∀ (l : List Value) {b : List UInt8} (_ : runesOf l = some b), ∃ ns : List Int, l = ns.map (Value.int .i32) ∧ b = ns.flatMap fun n => (Utf8.encode n).data.toList := by
  intro l
  induction l with
  | nil => intro b hb; simp only [runesOf, Option.some.injEq] at hb; exact ⟨[], rfl, hb.symm⟩
  | cons v l ih =>
    intro b hb
    unfold runesOf at hb
    split at hb
    · rename_i e; cases e
    · rename_i n l0 e
      cases e
      simp only [Option.map_eq_some_iff] at hb
      obtain ⟨b', h1, rfl⟩ := hb
      obtain ⟨ns, rfl, rfl⟩ := ih h1
      exact ⟨n :: ns, rfl, by simp⟩
    · cases hb
theorem LR.ints {k : IntKind} : ∀ (ns : List Int) {l' : List Value} (_ : LR ρ (ns.map (Value.int k)) l'), l' = ns.map (Value.int k) := by
  intro ns
  induction ns with
  | nil => intro l' h; exact h.nil_inv
  | cons n ns ih =>
    intro l' h
    obtain ⟨v', m, rfl, h1, h2⟩ := h.cons_inv
    cases h1
    rw [ih h2]; rfl

theorem run_forIn_runes {P : Program} {w : World} (f : Value → ByteArray → Sem (ForInStep ByteArray))
    (hf : ∀ (n : Int) (r : ByteArray), (f (.int .i32 n) r).run P w = .ok (.yield (r ++ Utf8.encode n)) w) :
    ∀ (ns : List Int) (s : ByteArray), (forIn (ns.map (Value.int .i32)) s f).run P w = .ok ⟨(s.data.toList ++ ns.flatMap fun n => (Utf8.encode n).data.toList).toArray⟩ w := by
  intro ns
  induction ns with
  | nil => intro s; cases s; simp [Sem.run_pure]
  | cons n ns ih =>
    intro s
    simp only [List.map_cons, List.forIn_cons, Sem.run_bind, hf, Result.andThen]
    rw [ih]
    simp
theorem run_runesToString {P : Program} (w : World) (a : Addr) (len cap : Nat) (ns : List Int)
    (h : (loadCells a len).run P w = .ok (ns.map (Value.int .i32)).toArray w) :
    (Conv.runesToString (.slice (some a) len cap)).run P w = .ok (.string ⟨(ns.flatMap fun n => (Utf8.encode n).data.toList).toArray⟩) w := by
  unfold Conv.runesToString
  simp only [Sem.run_bind, h, Result.andThen, List.forIn_toArray]
  rw [run_forIn_runes _ (by intro n r; simp [Sem.run_pure])]
  simp [Sem.run_pure]

theorem rowAt_self {P : Program} (d e count off n s : Nat) (hs : P.cellsOf e = s) (h0 : s ≠ 0) (hoff : off % s = 0) (hin : off / s + n ≤ count) :
    rowAt P (sameLayout P P.depth · e) (d + 1) e count off n = true := by
  have hfit : sameLayout P P.depth e e = true := by
    have : P.depth = (2 * (P.types.size + Made.depth) + 1) + 1 := rfl
    rw [this]
    simp [sameLayout]
  simp only [rowAt, hs]
  rw [if_neg h0]
  simp [hoff, hin, hfit]
theorem liesAt_self {P : Program} (d e count off n s : Nat) (hs : P.cellsOf e = s) (h0 : s ≠ 0) (hoff : off % s = 0) (hin : off / s + n ≤ count) : liesAt P (d + 1) e count off e n = true := by
  have hd : P.depth = (2 * (P.types.size + Made.depth) + 1) + 1 := rfl
  have := rowAt_self (P := P) (2 * (P.types.size + Made.depth) + 1) e count off n s hs h0 hoff hin
  rw [← hd] at this
  simp [liesAt, this]
theorem variablesAt_self {g off e n s : Nat} {c : Array Value} {fr : Nat × Nat} (hg : w.heap[g]? = some (.cells c e fr)) (hs : AX.sizeOf P e = some s) (h0 : s ≠ 0) (hoff : off % s = 0) (hin : off + n * s ≤ c.size) :
    (variablesAt ⟨g, off, none⟩ e n).run P w = .ok true w := by
  have hc : P.cellsOf e = s := by
    simp only [AX.sizeOf] at hs
    simp [Program.cellsOf, hs]
  have hd : P.depth = (2 * (P.types.size + Made.depth) + 1) + 1 := rfl
  have h1 : off / s + n ≤ c.size / s := by
    have hp : 0 < s := Nat.pos_of_ne_zero h0
    rw [Nat.le_div_iff_mul_le hp, Nat.add_mul]
    have : off / s * s = off := by have := Nat.div_add_mod off s; rw [Nat.mul_comm]; omega
    omega
  have := liesAt_self (P := P) (2 * (P.types.size + Made.depth) + 1) e (c.size / s) off n s hc h0 hoff h1
  rw [← hd] at this
  simp [variablesAt, World.shape?, hg, hc, this]

theorem convV_sound (hH : HR NG B ρ h w) {src dst : TypeId} {x x' v : Value} (hv : convV P h src dst x = some v) (hx : VR ρ x x') : ∃ v', (convert src dst x').run P w = .ok v' w ∧ VR ρ v v' := by
  unfold convV at hv
  split at hv
  · rename_i k0 k k1 n hs hd; cases hx; cases hv; refine ⟨_, ?_, .int _ _⟩; simp [convert, run_und hs, run_und hd, Conv.intToInt]
  · rename_i k0 k1 n hs hd; cases hx; cases hv; refine ⟨_, ?_, .string _⟩; simp [convert, run_und hs, run_und hd, Conv.intToString]
  · rename_i s hs hd; cases hx; cases hv; refine ⟨_, ?_, .string _⟩; simp [convert, run_und hs, run_und hd]
  · rename_i e n c hs hd
    cases hx
    split at hv
    · rename_i he; cases hv; refine ⟨_, ?_, .string _⟩; simp [convert, run_und hs, run_und hd, run_und he, Conv.bytesToString]
    · rename_i he; cases hv; refine ⟨_, ?_, .string _⟩; simp [convert, run_und hs, run_und hd, run_und he, Conv.runesToString]
    · cases hv
  · rename_i e a len cap hs hd
    cases hx with
    | slice x o l _ _ cap' a' hl hcap hlen haddr _ =>
      split at hv
      · rename_i he _
        simp only [Option.bind_eq_bind, Option.bind_eq_some_iff] at hv
        obtain ⟨r, hr, b, hb, hv⟩ := hv
        cases hv
        obtain ⟨r', h1, h2, h3⟩ := read_sound hH hr hl
        obtain ⟨ns, rfl, rfl⟩ := bytesOf_eq _ hb
        have h4 := LR.ints ns h1
        subst h4
        refine ⟨.string _, ?_, .string _⟩
        have hload : (loadCells a' len).run P w = .ok (ns.map (Value.int .u8)).toArray w := by
          by_cases h0 : cap' = 0
          · have : len = 0 := by omega
            subst this
            have : ns = [] := by cases ns with
              | nil => rfl
              | cons n ns => simp at h2
            subst this
            rfl
          · obtain ⟨ha, _⟩ := haddr h0
            subst ha
            exact run_loadCells_of h2 h3
        rw [run_convert_bytes_string w src dst e _ _ _ hs he hd, run_bytesToString w a' len cap' ns hload, foldl_push_bytes]
        have e0 : ByteArray.empty.data = #[] := rfl
        rw [e0]
        simp
      · rename_i he _
        simp only [Option.bind_eq_bind, Option.bind_eq_some_iff] at hv
        obtain ⟨r, hr, b, hb, hv⟩ := hv
        cases hv
        obtain ⟨r', h1, h2, h3⟩ := read_sound hH hr hl
        obtain ⟨ns, rfl, rfl⟩ := runesOf_eq _ hb
        have h4 := LR.ints ns h1
        subst h4
        refine ⟨.string _, ?_, .string _⟩
        have hload : (loadCells a' len).run P w = .ok (ns.map (Value.int .i32)).toArray w := by
          by_cases h0 : cap' = 0
          · have : len = 0 := by omega
            subst this
            have : ns = [] := by cases ns with
              | nil => rfl
              | cons n ns => simp at h2
            subst this
            rfl
          · obtain ⟨ha, _⟩ := haddr h0
            subst ha
            exact run_loadCells_of h2 h3
        have e1 : (convert src dst (.slice (some a') len cap')).run P w = (Conv.runesToString (.slice (some a') len cap')).run P w := by
          simp [convert, run_und hs, run_und hd, run_und he]
        rw [e1, run_runesToString w a' len cap' ns hload]
      · cases hv
  · rename_i e hs hd; cases hx; cases hv; refine ⟨_, ?_, .nilPtr⟩; simp [convert, run_und hs, run_und hd, Conv.unsafePointer]
  · rename_i e hs hd; cases hx; cases hv; refine ⟨_, ?_, .nilPtr⟩; simp [convert, run_und hs, run_und hd, Conv.unsafePointer]
  · rename_i t a hs hd
    split at hv
    · rename_i b n hb _ hn
      split at hv
      · rename_i hc
        cases hv
        cases hx with
        | ptr x o l hl =>
          obtain ⟨l0, q1, q2, _⟩ := hH.cells x b (blk_some hb)
          rw [hl] at q1; cases q1
          obtain ⟨⟨c, fr, g1, g2, _, _⟩, _, _, g7, _⟩ := q2
          refine ⟨_, ?_, .ptr x o l hl⟩
          have hsh : w.shape? l.b = some (b.elem, c.size) := by simp [World.shape?, g1]
          have hlt : ¬ c.size ≤ l.base + o := by simp only at hc; omega
          simp [convert, run_und hs, run_und hd, Conv.unsafePointer, Conv.seenAt, viewAt, cellsIn, hsh, run_size hn, hc.2, hlt]
      · cases hv
    · cases hv
  · rename_i u a hs hd
    split at hv
    · rename_i b n hb _ hn
      split at hv
      · rename_i hc
        cases hv
        cases hx with
        | ptr x o l hl =>
          obtain ⟨l0, q1, q2, _⟩ := hH.cells x b (blk_some hb)
          rw [hl] at q1; cases q1
          obtain ⟨⟨c, fr, g1, g2, _, _⟩, _, g6, g7, _⟩ := q2
          obtain ⟨c1, c2, c3, c4, c5⟩ := hc
          simp only at c4 c5
          subst c1
          refine ⟨_, ?_, .ptr x o l hl⟩
          have hsh : w.shape? l.b = some (b.elem, c.size) := by simp [World.shape?, g1]
          have hva := variablesAt_self (P := P) (w := w) (n := 1) (off := l.base + o) g1 hn c2 (by
            rw [c3] at g6
            rw [Nat.add_mod, g6, c4]; simp) (by omega)
          simp [convert, run_und hs, run_und hd, Conv.unsafePointer, Conv.seenAt, viewAt, hsh, run_size hn, hva]
      · cases hv
    · cases hv
  · cases hv
end
end Go.AX
