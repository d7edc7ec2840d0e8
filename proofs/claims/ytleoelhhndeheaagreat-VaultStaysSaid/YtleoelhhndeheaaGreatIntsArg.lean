/- a []int that came in, as a row -/
import Derived.Test.YtleoelhhndeheaaGreatProg
import Derived.Test.YtleoelhhndeheaaGreatDrum7
import Derived.ProofKit
open Go Go.RowKit Go.ChangeShapes Go.WideShapes
namespace Go.Proofs.YtleoelhhndeheaaGreat

theorem ints_open {H : Type} {enc : TypeId × Value → H} {W : World} {a : Option Addr} {l c : Nat} {d : DataW H} {p : List MemPlace} (h : DataW.Trod enc Tryz.prog W 0 (fun _ => true) true 33 (.slice a l c) d p) : ∃ zs, IntsAt W a l c zs := by
  obtain ⟨fuel, hf⟩ := h
  rcases open_ints Tryz.underlying33 Tryz.underlying3 (by kernel_rfl) hf with ⟨hcs, _⟩ | ⟨x, l, c, zs, hcs, _, hl, hm, hz, _, hcell, hwz⟩
  · simp [Value.cells] at hcs
    obtain ⟨rfl, rfl, rfl⟩ := hcs
    exact ⟨[], IntsAt.none _⟩
  · simp [Value.cells] at hcs
    obtain ⟨rfl, rfl, rfl⟩ := hcs
    simp only [if_true] at hz
    have hx : 0 < l → some x = some ⟨sB (some x), sO (some x), none⟩ := fun h0 => some_of_cell (hcell 0 (by omega))
    unfold maxLen at hm
    refine ⟨zs.take l, ⟨fun h0 => hx (by simp at h0; omega), fun i v hv => ?_⟩, by simp; omega, (fun h => by cases h), by omega⟩
    rw [I8, List.getElem?_map, List.getElem?_take] at hv
    split at hv
    · rename_i hi
      obtain ⟨z, hz2, rfl⟩ := Option.map_eq_some_iff.1 hv
      have e := hx (by omega)
      rw [Option.some.injEq] at e
      have h1 := hcell i (by omega)
      rw [e, add_eq, List.getD_eq_getElem?_getD, hz2] at h1
      exact h1
    · simp at hv

end Go.Proofs.YtleoelhhndeheaaGreat
