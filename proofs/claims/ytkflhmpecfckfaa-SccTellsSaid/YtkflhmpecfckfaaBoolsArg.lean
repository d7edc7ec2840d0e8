/- a []bool that came in -/
import Derived.Test.YtkflhmpecfckfaaProg
import Derived.Test.YtkflhmpecfckfaaArgs
import Derived.Deep.Grids
import Derived.ChangeSlices
open Go Go.RowKit
namespace Go.Proofs.Ytkflhmpecfckfaa

structure BoolsAt (w : World) (a : Option Addr) (n : Nat) (f : Nat → Bool) : Prop where
  nn : 0 < n → a = some ⟨sB a, sO a, none⟩
  cell : ∀ i, i < n → w.cell? ⟨sB a, sO a + i, none⟩ = some (.bool (f i))
  len : n ≤ maxLen
theorem BoolsAt.below {w w' : World} {a : Option Addr} {n : Nat} {f : Nat → Bool} (h : BoolsAt w a n f) {B : Nat} (hb : Below B w w') (hB : w.heap.size ≤ B) : BoolsAt w' a n f :=
  ⟨h.nn, fun i hi => Below.cellAt hb (by have := lt_of_cell (h.cell i hi); omega) (h.cell i hi), h.len⟩
theorem bools_open {H : Type} {enc : TypeId × Value → H} {W : World} {a : Option Addr} {l c : Nat} {d : DataW H} {p : List MemPlace} (h : DataW.Trod enc Try.prog W 0 (fun _ => true) true 23 (.slice a l c) d p) : ∃ f, BoolsAt W a l f := by
  obtain ⟨fuel, hf⟩ := h
  rcases Go.Deep.open_bools Try.underlying23 Try.underlying4 (by kernel_rfl) hf with ⟨hcs, _⟩ | ⟨x, l, c, B, hcs, _, hl, hm, _, hcell⟩
  · simp [Value.cells] at hcs
    obtain ⟨rfl, rfl, rfl⟩ := hcs
    exact ⟨fun _ => false, fun h => by omega, fun i h => by omega, Nat.zero_le _⟩
  · simp [Value.cells] at hcs
    obtain ⟨rfl, rfl, rfl⟩ := hcs
    have hx : 0 < l → some x = some ⟨sB (some x), sO (some x), none⟩ := fun h0 => some_of_cell (hcell 0 (by omega))
    refine ⟨B, hx, fun i hi => ?_, by omega⟩
    have e := hx (by omega)
    rw [Option.some.injEq] at e
    have h1 := hcell i (by omega)
    rw [e, add_eq] at h1
    exact h1

end Go.Proofs.Ytkflhmpecfckfaa
