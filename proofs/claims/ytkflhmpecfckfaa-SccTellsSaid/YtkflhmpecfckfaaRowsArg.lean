/- a [][]int that came in -/
import Derived.Test.YtkflhmpecfckfaaLaw20
import Derived.Deep.Matrix
open Go Go.RowKit
namespace Go.Proofs.Ytkflhmpecfckfaa

theorem rowsIn_nil (w : World) : RowsIn w none 0 := ⟨fun h => by omega, fun r h => by omega⟩
theorem rowsIn_of {w : World} {x : Addr} {len cap : Nat} {A : Nat → Option Addr} {L C : Nat → Nat} {Z : Nat → List Int} (hl : len ≤ cap)
    (h : ∀ r, r < cap → w.cell? (x.add r) = some (.slice (A r) (L r) (C r)) ∧ L r ≤ C r ∧ C r ≤ maxLen ∧ (Z r).length = C r ∧ (∀ n ∈ Z r, (Lit.int .i64 n).wf = true) ∧ (A r = none → C r = 0) ∧
        ∀ a', A r = some a' → 0 ≤ a'.block ∧ ∀ c, c < C r → w.cell? (a'.add c) = some (.int .i64 ((Z r).getD c 0))) : RowsIn w (some x) len := by
  have hx : 0 < len → some x = some ⟨sB (some x), sO (some x), none⟩ := fun h0 => some_of_cell (h 0 (by omega)).1
  refine ⟨hx, fun r hr => ?_⟩
  obtain ⟨h1, h2, h3, h4, h5, h6, h7⟩ := h r (by omega)
  have e := hx (by omega)
  rw [Option.some.injEq] at e
  refine ⟨A r, L r, C r, (Z r).take (L r), ?_, ⟨⟨fun h0 => ?_, fun i v hv => ?_⟩, by simp; omega, fun hn => ?_, h2, h3⟩, fun n hn => bd_i64 (h5 n (List.mem_of_mem_take hn))⟩
  · rw [e, add_eq] at h1; exact h1
  · cases ha : A r with
    | none => have := h6 ha; simp at h0; omega
    | some a' => exact some_of_cell ((h7 a' ha).2 0 (by simp at h0; omega))
  · rw [I8, List.getElem?_map, List.getElem?_take] at hv
    split at hv
    · rename_i hi
      obtain ⟨z, hz, rfl⟩ := Option.map_eq_some_iff.1 hv
      cases ha : A r with
      | none => have := h6 ha; omega
      | some a' =>
        have h8 := (h7 a' ha).2 i (by omega)
        have h9 := some_of_cell ((h7 a' ha).2 0 (by omega))
        rw [Option.some.injEq] at h9
        rw [h9, add_eq, List.getD_eq_getElem?_getD, hz] at h8
        exact h8
    · simp at hv
  · have := h6 hn; omega

end Go.Proofs.Ytkflhmpecfckfaa
